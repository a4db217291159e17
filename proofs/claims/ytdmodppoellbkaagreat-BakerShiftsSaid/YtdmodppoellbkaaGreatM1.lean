/-
The logic over the model, and the first contracts.
-/
import Derived.Test.YtdmodppoellbkaaGreatProg
import Derived.Below
import Derived.OrdersHeld
import Derived.Laws.Cells
import Derived.Tactics
import Derived.KernelRfl
import Derived.Deep.LoopGhost
import Derived.Laws.Tables
import Derived.Laws.CopyRow
import Derived.Laws.MakeOwn
import Derived.Laws.Append
import Derived.Laws.StructEq
set_option linter.unusedVariables false
set_option linter.unusedSimpArgs false
namespace Go.Proofs.YtdmodppoellbkaaGreat
open Go Go.RowKit
@[irreducible] noncomputable def P : Program := Tryz.prog
theorem P_eq : P = Tryz.prog := by unfold P; rfl
/-- The temporaries of a call. -/
abbrev Tm := Nat → Value
def upd (T : Tm) (i : Nat) (v : Value) : Tm := fun j => if j = i then v else T j
def putT (T : Tm) (d : Option Tmp) (v : Value) : Tm := match d with | some i => upd T i v | none => T
def ev (T : Tm) : Operand → Value
  | .tmp t => T t
  | .const v => v
  | .global g => .pointer (some ⟨g, 0, none⟩)
  | .func f => .func (.func f) #[] #[]
/-- What is known of a block of the call's own. -/
inductive Blk where
  | row (e : TypeId) (base : Nat) (cs : List Value) (tot : Nat)
  | map (es : List (Value × Value))
  | mapr (es : List (Value × Value)) (it : Nat) (left : List (Value × Value)) (cur : Option (Value × Value))
  | obj (o : Obj)
def pairOf (e : MapEntry) : Value × Value := (e.key, e.val)
/-- The entries of a map: their stamps are told apart, and lie below the clock. -/
structure EntriesOk (en : Array MapEntry) (clock : Nat) : Prop where
  lt : ∀ e ∈ en.toList, e.born < clock
  ne : (en.toList.map (·.born)).Nodup
def Blk.holds (w : World) (b : Nat) : Blk → Prop
  | .row e base cs tot => ∃ c : Array Value, w.heap[b]? = some (.cells c e (0, 0)) ∧ c.size = tot ∧ base + cs.length ≤ tot ∧ ∀ i, i < cs.length → c[base + i]? = cs[i]?
  | .map es => ∃ en clock, w.heap[b]? = some (.map en clock) ∧ EntriesOk en clock ∧ en.toList.map pairOf = es
  | .mapr es it left cur => ∃ en clock seen, w.heap[b]? = some (.map en clock) ∧ EntriesOk en clock ∧ en.toList.map pairOf = es ∧ b ≠ it ∧ it < w.heap.size ∧
      w.heap[it]? = some (.mapIter (some b) clock seen clock) ∧ (en.toList.filter fun e => !seen.contains e.born).map pairOf = left ∧
      ∀ p, cur = some p → ∃ e ∈ en.toList, seen.back? = some e.born ∧ pairOf e = p
  | .obj o => w.heap[b]? = some o
abbrev Hp := Nat → Option Blk
def hset (H : Hp) (b : Nat) (o : Blk) : Hp := fun c => if c = b then some o else H c
def hdel (H : Hp) (b : Nat) : Hp := fun c => if c = b then none else H c
def Sub (R H : Hp) : Prop := ∀ b o, R b = some o → H b = some o
theorem Sub.refl (H : Hp) : Sub H H := fun _ _ h => h
theorem Sub.trans {A C D : Hp} (h : Sub A C) (k : Sub C D) : Sub A D := fun b o e => k b o (h b o e)
/-- The world in which the law was called, and from which block on its own lie. -/
structure Cx where
  B : Nat
  w0 : World
  hB : B ≤ w0.heap.size
variable (U : Cx)
/-- Blocks of iterators are not among the blocks of the map. -/
def Apart (R : Hp) : Prop := ∀ b es it left cur, R b = some (.mapr es it left cur) → U.B ≤ it ∧ R it = none ∧ ∀ b' es' it' left' cur', R b' = some (.mapr es' it' left' cur') → it' = it → b' = b
structure Hold (R : Hp) (w : World) : Prop where
  below : Below U.B U.w0 w
  blk : ∀ b o, R b = some o → U.B ≤ b ∧ o.holds w b
structure Own (H : Hp) (N : Nat) (w : World) : Prop where
  below : Below U.B U.w0 w
  blk : ∀ b o, H b = some o → U.B ≤ b ∧ o.holds w b
  size : w.heap.size = N
  lt : ∀ b o, H b = some o → b < N
  hBN : U.B ≤ N
  apart : Apart U H
  dr : U.w0.drawn ≤ w.drawn
theorem Own.hold {H : Hp} {N : Nat} {w : World} (h : Own U H N w) : Hold U H w := ⟨h.below, h.blk⟩
theorem Hold.sub {R H : Hp} {w : World} (h : Hold U H w) (hs : Sub R H) : Hold U R w := ⟨h.below, fun b o e => h.blk b o (hs b o e)⟩
structure Sat (n : Nat) (T : Tm) (H : Hp) (N : Nat) (a : Act) (w : World) : Prop where
  size : a.tmps.size = n
  tm : ∀ i, a.tmps.getD i undef = T i
  defers : a.defers = []
  own : Own U H N w
theorem Sat.eval {n : Nat} {T : Tm} {H : Hp} {N : Nat} {a : Act} {w : World} (h : Sat U n T H N a w) (x : Operand) : a.eval x = ev T x := by
  cases x <;> simp only [Act.eval, ev]
  exact h.tm _
def dstOk (n : Nat) : Option Tmp → Bool
  | some d => decide (d < n)
  | none => true
theorem Sat.put {n : Nat} {T : Tm} {H H' : Hp} {N N' : Nat} {a : Act} {w w' : World} (h : Sat U n T H N a w) {d : Option Tmp} (hd : dstOk n d = true) (v : Value) (ho : Own U H' N' w') :
    Sat U n (putT T d v) H' N' (a.put d v) w' := by
  cases d with
  | none => exact ⟨h.size, h.tm, h.defers, ho⟩
  | some d =>
    have hd' : d < n := by simpa [dstOk] using hd
    refine ⟨by simp [Act.put, h.size], fun i => ?_, h.defers, ho⟩
    have hi := h.tm i
    simp only [Act.put, putT, upd]
    by_cases hid : i = d
    · subst hid
      simp [Array.getD_eq_getD_getElem?, h.size, hd']
    · rw [if_neg hid, ← hi]
      simp [Array.getD_eq_getD_getElem?, Ne.symm hid]
/-! ### What lies behind the code -/
abbrev Post := Exit → Tm → Hp → Nat → Prop
def lift (n : Nat) (Q : Post) : Exit → Act → World → Prop
  | .panic _, _, _ => False
  | .outgrown, _, _ => False
  | e, a, w => ∃ T H N, Sat U n T H N a w ∧ Q e T H N
def WC (n : Nat) (c : Code) (T : Tm) (H : Hp) (N : Nat) (Q : Post) : Prop := ∀ a w, Sat U n T H N a w → c.wp P (lift U n Q) a w
theorem lift_mono {n : Nat} {Q Q' : Post} (h : ∀ e T H N, Q e T H N → Q' e T H N) : ∀ e a w, lift U n Q e a w → lift U n Q' e a w := by
  intro e a w hq
  cases e <;> simp only [lift] at hq ⊢ <;> first
    | exact hq
    | (obtain ⟨T, H, N, hs, hq⟩ := hq; exact ⟨T, H, N, hs, h _ _ _ _ hq⟩)
theorem WC.mono {n : Nat} {c : Code} {T : Tm} {H : Hp} {N : Nat} {Q Q' : Post} (hw : WC U n c T H N Q) (h : ∀ e T H N, Q e T H N → Q' e T H N) : WC U n c T H N Q' :=
  fun a w hs => wp_mono (hw a w hs) (lift_mono U h)
/-- Behind a part of a sequence: the rest, or a way out. -/
def andThen (K : Tm → Hp → Nat → Prop) (Q : Post) : Post
  | .normal, T, H, N => K T H N
  | e, T, H, N => Q e T H N
def inBlock (id : Nat) (Q : Post) : Post
  | .exit id', T, H, N => if id' = id then Q .normal T H N else Q (.exit id') T H N
  | e, T, H, N => Q e T H N
variable {n : Nat} {T : Tm} {H : Hp} {N : Nat} {Q : Post}
theorem wq {x y : Code} (h : WC U n x T H N (andThen (fun T H N => WC U n y T H N Q) Q)) : WC U n (.seq x y) T H N Q := by
  intro a w hs
  refine wp_seq (wp_mono (h a w hs) ?_)
  intro e a' w' hq
  cases e <;> simp only [lift, Exit.then, andThen] at hq ⊢ <;> first
    | exact hq
    | (obtain ⟨T, H, N, hs, hq⟩ := hq; exact hq a' w' hs)
theorem wcd {c : Operand} {x y : Code} {t : Bool} (hc : ev T c = .bool t) (ht : t = true → WC U n x T H N Q) (hf : t = false → WC U n y T H N Q) : WC U n (.cond c x y) T H N Q := by
  intro a w hs
  exact wp_cond_split (t := t) (by rw [hs.eval]; exact hc) (fun h => ht h a w hs) (fun h => hf h a w hs)
theorem wc_block {id : Nat} {c : Code} (h : WC U n c T H N (inBlock id Q)) : WC U n (.block id c) T H N Q := by
  intro a w hs
  refine wp_block (wp_mono (h a w hs) ?_)
  intro e a' w' hq
  cases e with
  | exit id' =>
    simp only [lift, inBlock, Exit.inBlock] at hq ⊢
    obtain ⟨T, H, N, hs, hq⟩ := hq
    split
    · rename_i hid
      rw [if_pos hid] at hq
      exact ⟨T, H, N, hs, hq⟩
    · rename_i hid
      rw [if_neg hid] at hq
      exact ⟨T, H, N, hs, hq⟩
  | _ => exact hq
theorem wc_loop {c : Code} (I : Nat → Tm → Hp → Nat → Prop) (m : Nat) (h0 : I m T H N)
    (round : ∀ m T H N, I m T H N → WC U n c T H N (andThen (fun T H N => ∃ m', m' < m ∧ I m' T H N) Q)) : WC U n (.loop c) T H N Q := by
  intro a w hs
  refine wp_loop_ghost (fun m a w => ∃ T H N, Sat U n T H N a w ∧ I m T H N) m ⟨T, H, N, hs, h0⟩ ?_
  rintro m a w ⟨T, H, N, hs, hI⟩
  refine wp_mono (round m T H N hI a w hs) ?_
  intro e a' w' hq
  cases e <;> simp only [lift, Exit.then, andThen] at hq ⊢ <;> first
    | exact hq
    | (obtain ⟨T, H, N, hs, m', hm, hq⟩ := hq; exact ⟨m', hm, T, H, N, hs, hq⟩)
theorem wsk (h : Q .normal T H N) : WC U n .skip T H N Q := fun _ _ hs => wp_skip ⟨T, H, N, hs, h⟩
theorem wc_ret (h : Q .ret T H N) : WC U n .ret T H N Q := fun _ _ hs => wp_ret ⟨T, H, N, hs, h⟩
theorem wc_exit {id : Nat} (h : Q (.exit id) T H N) : WC U n (.exit id) T H N Q := fun _ _ hs => wp_exit ⟨T, H, N, hs, h⟩
theorem wc_label {l : Nat} (h : Q .normal T H N) : WC U n (.label l) T H N Q := fun _ _ hs => wp_label ⟨T, H, N, hs, h⟩
/-! ### Operations -/
/-- What an operation comes to. -/
def OpW (o : Oper) (T : Tm) (H : Hp) (N : Nat) (K : Value → Hp → Nat → Prop) : Prop :=
  ∀ (a : Act) (w : World), (∀ x, a.eval x = ev T x) → Own U H N w → ∀ (K' : Act → World → Prop) (Q0 : Exit → Act → World → Prop),
    (∀ v H' N' w', K v H' N' → Own U H' N' w' → K' (a.put o.dst v) w') → o.wp P a w K' Q0
/-- An operation that only looks. -/
def Rd (o : Oper) (T : Tm) (R : Hp) (v : Value) : Prop := ∀ (a : Act) (w : World), (∀ x, a.eval x = ev T x) → Hold U R w → (execOp a.eval o).run P w = .ok (.value v) w
theorem opw_of_run {o : Oper} {K : Value → Hp → Nat → Prop}
    (h : ∀ (a : Act) (w : World), (∀ x, a.eval x = ev T x) → Own U H N w → ∃ v w' H' N', (execOp a.eval o).run P w = .ok (.value v) w' ∧ Own U H' N' w' ∧ K v H' N') : OpW U o T H N K := by
  intro a w he ho K' Q0 hK
  obtain ⟨v, w', H', N', hr, ho', hk⟩ := h a w he ho
  unfold Oper.wp
  rw [hr]
  exact hK v H' N' w' hk ho'
theorem opw_of_skip {o : Oper} {K : Value → Hp → Nat → Prop}
    (h : ∀ (a : Act) (w : World), (∀ x, a.eval x = ev T x) → Own U H N w → ∃ w' H' N', (execOp a.eval o).run P w = .ok .skip w' ∧ Own U H' N' w' ∧ K undef H' N') : OpW U o T H N K := by
  intro a w he ho K' Q0 hK
  obtain ⟨w', H', N', hr, ho', hk⟩ := h a w he ho
  unfold Oper.wp
  rw [hr]
  exact hK undef H' N' w' hk ho'
theorem Rd.opw {o : Oper} {v : Value} {K : Value → Hp → Nat → Prop} (h : Rd U o T H v) (hk : K v H N) : OpW U o T H N K :=
  opw_of_run U fun a w he ho => ⟨v, w, H, N, h a w he ho.hold, ho, hk⟩
def yieldedT (ops : Array Oper) (T : Tm) (j : Nat) : Option Bool :=
  match (ops[j]?).bind (·.dst) with
  | some t => (match T t with | .bool b => some b | _ => none)
  | none => none
theorem Sat.yielded {n : Nat} {T : Tm} {H : Hp} {N : Nat} {a : Act} {w : World} (h : Sat U n T H N a w) (ops : Array Oper) : yielded ops a.tmps = yieldedT ops T := by
  funext j
  unfold Go.yielded yieldedT
  cases hd : (ops[j]?).bind (·.dst) with
  | none => rfl
  | some t =>
    have := h.tm t
    simp only [Option.bind_some, Array.getD_eq_getD_getElem?] at this ⊢
    cases ht : a.tmps[t]? with
    | none => rw [ht] at this; simp [undef] at this; rw [← this]
    | some v => rw [ht] at this; simp at this; rw [← this]; cases v <;> rfl
/-- A list of operations, carried out in its order. -/
def WL (n : Nat) (ops : Array Oper) (l : List Oper) (T : Tm) (H : Hp) (N : Nat) (Q : Post) : Prop := ∀ a w, Sat U n T H N a w → wpList P ops (lift U n Q) l a w
theorem wz {ops : Array Oper} (h : Q .normal T H N) : WL U n ops [] T H N Q := fun _ _ hs => wpList_nil ⟨T, H, N, hs, h⟩
theorem wl_step {ops : Array Oper} {o : Oper} {l : List Oper} (hw : Region.wanted o (yieldedT ops T) = true) (hd : dstOk n o.dst = true)
    (h : OpW U o T H N fun v H' N' => WL U n ops l (putT T o.dst v) H' N' Q) : WL U n ops (o :: l) T H N Q := by
  intro a w hs
  refine wpList_step fun K hK => ?_
  rw [hs.yielded, hw, if_pos rfl]
  exact h a w (hs.eval U) hs.own K _ fun v H' N' w' hk ho => hK _ _ (hk _ _ (hs.put U hd v ho))
theorem wl_skip {ops : Array Oper} {o : Oper} {l : List Oper} (hw : Region.wanted o (yieldedT ops T) = false) (hd : dstOk n o.dst = true)
    (h : WL U n ops l (putT T o.dst undef) H N Q) : WL U n ops (o :: l) T H N Q := by
  intro a w hs
  refine wpList_step fun K hK => ?_
  rw [hs.yielded, hw]
  exact hK _ _ (h _ _ (hs.put U hd undef hs.own))
theorem wl_rd0 {ops : Array Oper} {o : Oper} {l : List Oper} {v : Value} (h : Rd U o T H v) (hw : Region.wanted o (yieldedT ops T) = true) (hd : dstOk n o.dst = true)
    (hk : WL U n ops l (putT T o.dst v) H N Q) : WL U n ops (o :: l) T H N Q := wl_step U hw hd (h.opw U hk)
theorem wg {id : Nat} {l : List Oper} (h : WL U n l.toArray l T H N Q) : WC U n (.region id l.toArray false) T H N Q := fun a w hs => wp_region_lit (h a w hs)
/-! ### A region whose order is drawn -/
def WH (n : Nat) (ops : Array Oper) (R : Hp) (fuel : Nat) (listed : Array Bool) (T : Tm) (H : Hp) (N : Nat) (Q : Post) : Prop :=
  ∀ a w, Sat U n T H N a w → wpAnyH P .any ops (lift U n Q) (Hold U R) fuel listed a w
theorem Blk.holds_drawn {w : World} {b : Nat} {o : Blk} (k : Nat) (h : o.holds w b) : o.holds { w with drawn := k } b := by cases o <;> exact h
theorem Own.drawn {w : World} (h : Own U H N w) (k : Nat) (hk : w.drawn ≤ k) : Own U H N { w with drawn := k } :=
  ⟨⟨h.below.os, h.below.tape, h.below.output, h.below.size, h.below.block⟩, fun b o e => ⟨(h.blk b o e).1, Blk.holds_drawn k (h.blk b o e).2⟩, h.size, h.lt, h.hBN, h.apart, Nat.le_trans h.dr hk⟩
theorem wc_draw {id : Nat} {ops : Array Oper} (R : Hp) (hm : P.follows .mixedOrders = true) (h : WH U n ops R ops.size (Array.replicate ops.size false) T H N Q) : WC U n (.region id ops true) T H N Q :=
  fun a w hs => wp_region_held hm (h a _ ⟨hs.size, hs.tm, hs.defers, hs.own.drawn U _ (Nat.le_succ _)⟩)
theorem wh_take {ops : Array Oper} {R : Hp} {fuel : Nat} {listed : Array Bool} (i : Nat) {oi : Oper} {v : Value} (h : Rd U oi T R v) (hi : ops[i]? = some oi) (hsel : Region.noSelect ops = true)
    (hf : Region.free .any ops listed i = true) (hr : (Region.ready .any ops listed).contains i = true) (hw : Region.wanted oi (yieldedT ops T) = true) (hd : dstOk n oi.dst = true) (hs : Sub R H)
    (hk : WH U n ops R fuel (listed.setIfInBounds i true) (putT T oi.dst v) H N Q) : WH U n ops R (fuel + 1) listed T H N Q := by
  intro a w hsat
  refine wpAnyH_take hi hsel hf hr (fun c a w q => q) (.inl ⟨by rw [hsat.yielded]; exact hw, fun w' hw' => h a w' (hsat.eval U) hw'⟩) (hsat.own.hold.sub U hs) ?_
  exact hk _ _ (hsat.put U hd v hsat.own)
theorem wh_pass {ops : Array Oper} {R : Hp} {fuel : Nat} {listed : Array Bool} (i : Nat) {oi : Oper} (hi : ops[i]? = some oi) (hsel : Region.noSelect ops = true)
    (hf : Region.free .any ops listed i = true) (hr : (Region.ready .any ops listed).contains i = true) (hw : Region.wanted oi (yieldedT ops T) = false) (hd : dstOk n oi.dst = true) (hs : Sub R H)
    (hk : WH U n ops R fuel (listed.setIfInBounds i true) (putT T oi.dst undef) H N Q) : WH U n ops R (fuel + 1) listed T H N Q := by
  intro a w hsat
  refine wpAnyH_take hi hsel hf hr (fun c a w q => q) (.inr ⟨by rw [hsat.yielded]; exact hw, rfl⟩) (hsat.own.hold.sub U hs) ?_
  exact hk _ _ (hsat.put U hd undef hsat.own)
theorem wh_one {ops : Array Oper} {R : Hp} {fuel : Nat} {listed : Array Bool} (i : Nat) {oi : Oper} (hr : Region.ready .any ops listed = [i]) (hi : ops[i]? = some oi)
    (hw : Region.wanted oi (yieldedT ops T) = true) (hd : dstOk n oi.dst = true)
    (h : OpW U oi T H N fun v H' N' => Sub R H' ∧ WH U n ops R fuel (listed.setIfInBounds i true) (putT T oi.dst v) H' N' Q) : WH U n ops R (fuel + 1) listed T H N Q := by
  intro a w hsat
  refine wpAnyH_all hr (by simp) fun j hj => ?_
  obtain rfl : j = i := by simpa using hj
  unfold wpOp
  simp only [hi]
  rw [hsat.yielded, hw, if_pos rfl]
  exact .inl (h a w (hsat.eval U) hsat.own _ _ fun v H' N' w' hk ho => ⟨ho.hold.sub U hk.1, hk.2 _ _ (hsat.put U hd v ho)⟩)
theorem wh_two {ops : Array Oper} {R : Hp} {fuel : Nat} {listed : Array Bool} (i k : Nat) {oi ok : Oper} (hr : Region.ready .any ops listed = [i, k]) (hi : ops[i]? = some oi) (hk : ops[k]? = some ok)
    (hw : Region.wanted oi (yieldedT ops T) = true) (hd : dstOk n oi.dst = true) (hw2 : Region.wanted ok (yieldedT ops T) = true) (hd2 : dstOk n ok.dst = true)
    (h : OpW U oi T H N fun v H' N' => Sub R H' ∧ WH U n ops R fuel (listed.setIfInBounds i true) (putT T oi.dst v) H' N' Q)
    (h2 : OpW U ok T H N fun v H' N' => Sub R H' ∧ WH U n ops R fuel (listed.setIfInBounds k true) (putT T ok.dst v) H' N' Q) : WH U n ops R (fuel + 1) listed T H N Q := by
  intro a w hsat
  refine wpAnyH_all hr (by simp) fun j hj => ?_
  have hj' : j = i ∨ j = k := by simpa using hj
  unfold wpOp
  rcases hj' with rfl | rfl
  · simp only [hi]
    rw [hsat.yielded, hw, if_pos rfl]
    exact .inl (h a w (hsat.eval U) hsat.own _ _ fun v H' N' w' hk ho => ⟨ho.hold.sub U hk.1, hk.2 _ _ (hsat.put U hd v ho)⟩)
  · simp only [hk]
    rw [hsat.yielded, hw2, if_pos rfl]
    exact .inl (h2 a w (hsat.eval U) hsat.own _ _ fun v H' N' w' hk ho => ⟨ho.hold.sub U hk.1, hk.2 _ _ (hsat.put U hd2 v ho)⟩)
theorem wh_done {ops : Array Oper} {R : Hp} {fuel : Nat} {listed : Array Bool} (hr : Region.ready .any ops listed = []) (h : Q .normal T H N) : WH U n ops R fuel listed T H N Q :=
  fun _ _ hs => wpAnyH_done hr ⟨T, H, N, hs, h⟩ fuel
/-! ### Functions -/
/-- What a call comes to. -/
def Spec (f : FuncId) (args : Array Value) (H : Hp) (N : Nat) (K : Value → Hp → Nat → Prop) : Prop :=
  ∀ w, Own U H N w → Calls P f args w fun e w' => ∃ v H' N', e = .returned v ∧ Own U H' N' w' ∧ K v H' N'
theorem Spec.mono {f : FuncId} {args : Array Value} {K K' : Value → Hp → Nat → Prop} (h : Spec U f args H N K) (hk : ∀ v H' N', K v H' N' → K' v H' N') : Spec U f args H N K' :=
  fun w ho => (h w ho).mono fun _ _ ⟨v, H', N', he, ho', hv⟩ => ⟨v, H', N', he, ho', hk _ _ _ hv⟩
def argsT (args : Array Value) : Tm := fun i => args.getD i undef
/-- How a body's end is told to its caller. -/
def bodyQ (fn : Func) (K : Value → Hp → Nat → Prop) : Post
  | .normal, T, H, N | .ret, T, H, N => ∃ v, (∀ (a : Act) (w : World), (∀ i, a.tmps.getD i undef = T i) → Own U H N w → (results fn a.tmps).run P w = .ok v w) ∧ K v H N
  | _, _, _, _ => False
theorem spec_of {f : FuncId} {fn : Func} {c : Code} {args : Array Value} {K : Value → Hp → Nat → Prop} (hf : P.funcs[f]? = some fn) (hb : fn.body = some c) (hn : args.size ≤ fn.ntmps)
    (h : WC U fn.ntmps c (argsT args) H N (bodyQ U fn K)) : Spec U f args H N K := by
  intro w ho
  refine calls_of_wp hf hb (wp_mono (h _ w ⟨?_, ?_, rfl, ho⟩) ?_)
  · simp; omega
  · intro i
    simp only [argsT, Array.getD_eq_getD_getElem?, Array.getElem?_append]
    split
    · rfl
    · rename_i hi
      rw [Array.getElem?_replicate]
      have : args[i]? = none := Array.getElem?_eq_none (by omega)
      rw [this]
      split <;> rfl
  · intro e a w' hq
    cases e <;> simp only [lift, bodyQ, bodyPost] at hq ⊢ <;> first
      | exact hq
      | (obtain ⟨T, H, N, hs, v, hr, hk⟩ := hq; exact ⟨hs.defers, v, hr a w' hs.tm hs.own, v, H, N, rfl, hs.own, hk⟩)
      | (obtain ⟨T, H, N, hs, hq⟩ := hq; exact hq)
theorem op_call {dst : Option Tmp} {ty : TypeId} {pos : String} {after : Array Edge} {guard : Option (Nat × Bool)} {x : Operand} {xs : Array Operand} {ats : Array TypeId} {f : FuncId} {cap : Array Value} {args : Array Value}
    {K : Value → Hp → Nat → Prop} (fn : Func) (hx : ev T x = .func (.func f) #[] cap) (hargs' : xs.toList.map (ev T) ++ cap.toList = args.toList)
    (hf : P.funcs[f]? = some fn) (hnm : (fn.name == "runtime.NumGoroutine") = false) (hb : fn.body.isNone = false)
    (h : Spec U f args H N K) : OpW U ⟨dst, .call ⟨.value x, xs, ats⟩, ty, pos, after, guard⟩ T H N K := by
  intro a w he ho K' Q0 hK
  have hm : xs.map a.eval = xs.map (ev T) := Array.map_congr_left fun x _ => he x
  have hargs : xs.map (ev T) ++ cap = args := by apply Array.ext'; simpa using hargs'
  have hrun : (execOp a.eval ⟨dst, .call ⟨.value x, xs, ats⟩, ty, pos, after, guard⟩).run P w = .ok (.enter f args) w := by
    simp only [execOp, resolve, Deferred.ofValue, he, hx, hm]
    simp [invoke, callFunc, hf, hargs]
    rw [if_neg (fun h => by rw [h] at hnm; simp at hnm), if_neg (fun h => by rw [h] at hb; simp at hb)]
  unfold Oper.wp
  rw [hrun, Oper.upon_enter]
  refine (h w ho).mono ?_
  rintro e w' ⟨v, H', N', rfl, ho', hk⟩
  exact hK v H' N' w' hk ho'
end Go.Proofs.YtdmodppoellbkaaGreat
namespace Go.Proofs.YtdmodppoellbkaaGreat
open Go Go.RowKit
variable (U : Cx)
/-! ### Types, by closed facts -/
def isAggD : TypeDesc → Bool | .struct _ | .array _ _ => true | _ => false
/-- A type's cells, and whether it is a struct. -/
noncomputable def eltB (t sz : Nat) (agg : Bool) : Bool := match P.underlying t, P.info? t with | some d, some i => isAggD d == agg && i.size == sz | _, _ => false
noncomputable def fieldB (t i o : Nat) : Bool :=
  match P.underlying t with
  | some (.struct fs) => (match fs[i]? with | some f => f.offset == o && (match P.info? f.type with | some inf => inf.size != 0 | none => false) | none => false)
  | _ => false
structure SlT (t e sz bytes : Nat) (z : Value) : Prop where
  u : P.underlying t = some (.slice e)
  i : (P.info? e).map (fun i => (i.size, i.bytes, i.zero)) = some (sz, bytes, some z)
theorem SlT.info {t e sz bytes : Nat} {z : Value} (h : SlT t e sz bytes z) : ∃ i, P.info? e = some i ∧ i.size = sz ∧ i.bytes = bytes ∧ i.zero = some z := by
  have := h.i
  cases hi : P.info? e with
  | none => rw [hi] at this; simp at this
  | some i => rw [hi] at this; simp at this; exact ⟨i, rfl, this.1, this.2.1, this.2.2⟩
theorem run_isAgg {t : TypeId} {d : TypeDesc} (h : P.underlying t = some d) (w : World) : (isAgg t).run P w = .ok (isAggD d) w := by
  unfold isAgg
  simp only [Sem.run_bind, run_underlying h, Result.andThen_ok]
  cases d <;> rfl
theorem eltB_out {t sz : Nat} {agg : Bool} (h : eltB t sz agg = true) : ∃ d i, P.underlying t = some d ∧ P.info? t = some i ∧ isAggD d = agg ∧ i.size = sz := by
  unfold eltB at h
  cases hu : P.underlying t with
  | none => rw [hu] at h; simp at h
  | some d =>
    cases hi : P.info? t with
    | none => rw [hu, hi] at h; simp at h
    | some i => rw [hu, hi] at h; simp at h; exact ⟨d, i, rfl, rfl, h.1, h.2⟩
theorem run_sizeOf' {t : TypeId} {i : TypeInfo} (h : P.info? t = some i) (w : World) : (sizeOf t).run P w = .ok i.size w := by simp [sizeOf, typeInfo, h]
theorem add_none (b off k : Nat) : (⟨b, off, none⟩ : Addr).add k = ⟨b, off + k, none⟩ := by unfold Addr.add; split <;> simp_all
/-! ### What a cell holds -/
def rd (R : Hp) (b off : Nat) : Option Value :=
  if b < U.B then U.w0.cell? ⟨b, off, none⟩ else
    match R b with
    | some (.row _ base cs _) => if base ≤ off then cs[off - base]? else none
    | _ => none
theorem Hold.rd {R : Hp} {w : World} (h : Hold U R w) {b off : Nat} {v : Value} (hr : rd U R b off = some v) : w.cell? ⟨b, off, none⟩ = some v := by
  unfold YtdmodppoellbkaaGreat.rd at hr
  split at hr
  · rename_i hb
    rw [h.below.cell (p := ⟨b, off, none⟩) hb]; exact hr
  · split at hr
    · rename_i e base cs tot hR
      split at hr
      · rename_i hle
        obtain ⟨_, c, hc, hsz, hlen, hcs⟩ := h.blk b _ hR
        have hlt : off - base < cs.length := by
          rcases Nat.lt_or_ge (off - base) cs.length with h' | h'
          · exact h'
          · rw [List.getElem?_eq_none h'] at hr; cases hr
        have := hcs _ hlt
        rw [show base + (off - base) = off by omega, hr] at this
        simp [World.cell?, hc, this]
      · cases hr
    · cases hr
theorem rd_sub {R H : Hp} (hs : Sub R H) {b off : Nat} {v : Value} (hr : rd U R b off = some v) : rd U H b off = some v := by
  unfold rd at hr ⊢
  split at hr
  · rename_i hb; rw [if_pos hb]; exact hr
  · rename_i hb
    rw [if_neg hb]
    cases hR : R b with
    | none => rw [hR] at hr; simp at hr
    | some o => rw [hR] at hr; rw [hs b o hR]; exact hr
theorem rhn {H : Hp} {b c off : Nat} {o : Blk} (h : b ≠ c) : rd U (hset H c o) b off = rd U H b off := by simp [rd, hset, h]
theorem rd_hdel_ne {H : Hp} {b c off : Nat} (h : b ≠ c) : rd U (hdel H c) b off = rd U H b off := by simp [rd, hdel, h]
theorem rhq {H : Hp} {b off e base tot : Nat} {cs : List Value} (h : U.B ≤ b) : rd U (hset H b (.row e base cs tot)) b off = if base ≤ off then cs[off - base]? else none := by
  simp [rd, hset, Nat.not_lt.2 h]
theorem rrw {H : Hp} {b off e base tot : Nat} {cs : List Value} (h : U.B ≤ b) (hb : H b = some (.row e base cs tot)) : rd U H b off = if base ≤ off then cs[off - base]? else none := by
  simp [rd, hb, Nat.not_lt.2 h]
theorem rd_ro {H : Hp} {b off : Nat} (h : b < U.B) : rd U H b off = U.w0.cell? ⟨b, off, none⟩ := by simp [rd, h]
variable {n : Nat} {T : Tm} {R : Hp} {dst : Option Tmp} {ty : TypeId} {pos : String} {after : Array Edge} {guard : Option (Nat × Bool)} {x y z i : Operand}
theorem rm : Rd U ⟨dst, .move x, ty, pos, after, guard⟩ T R (ev T x) := fun a w he _ => by simp [execOp, he]
theorem ra : Rd U ⟨dst, .assign x, ty, pos, after, guard⟩ T R (ev T x) := fun a w he _ => by simp [execOp, he]
theorem rd_pick {c : Bool} (hc : ev T x = .bool c) : Rd U ⟨dst, .pick x y z, ty, pos, after, guard⟩ T R (if c then ev T y else ev T z) := fun a w he _ => by
  cases c <;> simp [execOp, he, hc, asBool]
theorem rfa {t k o b off : Nat} (hf : fieldB t k o = true) (hx : ev T x = .pointer (some ⟨b, off, none⟩)) :
    Rd U ⟨dst, .fieldAddr t x k, ty, pos, after, guard⟩ T R (.pointer (some ⟨b, off + o, none⟩)) := fun a w he _ => by
  unfold fieldB at hf
  cases hu : P.underlying t with
  | none => rw [hu] at hf; simp at hf
  | some d =>
    cases d <;> rw [hu] at hf <;> try simp at hf
    rename_i fs
    cases hk : fs[k]? with
    | none => rw [hk] at hf; simp at hf
    | some f =>
      cases hi : P.info? f.type with
      | none => rw [hk] at hf; simp [hi] at hf
      | some inf =>
        rw [hk] at hf; simp [hi] at hf
        simp [execOp, he, hx, Instr.fieldAt, run_underlying hu, hk, Instr.sureAddr, fieldPlace, run_sizeOf' hi, hf.2, add_none, hf.1]
theorem rl1 {t b off : Nat} {v : Value} (ht : eltB t 1 false = true) (hx : ev T x = .pointer (some ⟨b, off, none⟩)) (hr : rd U R b off = some v) :
    Rd U ⟨dst, .load t x, ty, pos, after, guard⟩ T R v := fun a w he hh => by
  obtain ⟨d, inf, hu, hi, ha, hs⟩ := eltB_out ht
  simp [execOp, he, hx, Instr.loadAt, Instr.sureAddr, loadVar, run_isAgg hu, ha, hh.rd U hr]
theorem rd_loadA {t k b off : Nat} {vs : List Value} (ht : eltB t k true = true) (hx : ev T x = .pointer (some ⟨b, off, none⟩)) (hl : vs.length = k)
    (hr : ∀ j v, vs[j]? = some v → rd U R b (off + j) = some v) :
    Rd U ⟨dst, .load t x, ty, pos, after, guard⟩ T R (.agg vs.toArray) := fun a w he hh => by
  obtain ⟨d, inf, hu, hi, ha, hs⟩ := eltB_out ht
  have hc := run_loadCells_list (P := P) w ⟨b, off, none⟩ vs (fun j v h => by rw [add_none]; exact hh.rd U (hr j v h))
  rw [hl] at hc
  simp [execOp, he, hx, Instr.loadAt, Instr.sureAddr, loadVar, run_isAgg hu, ha, run_sizeOf' hi, hs, hc]
theorem rd_load2 {t b off : Nat} {v0 v1 : Value} (ht : eltB t 2 true = true) (hx : ev T x = .pointer (some ⟨b, off, none⟩)) (h0 : rd U R b off = some v0) (h1 : rd U R b (off + 1) = some v1) :
    Rd U ⟨dst, .load t x, ty, pos, after, guard⟩ T R (.agg #[v0, v1]) :=
  rd_loadA U (vs := [v0, v1]) ht hx rfl fun j v h => by
    match j, h with
    | 0, h => cases h; exact h0
    | 1, h => cases h; exact h1
theorem rd_load3 {t b off : Nat} {v0 v1 v2 : Value} (ht : eltB t 3 true = true) (hx : ev T x = .pointer (some ⟨b, off, none⟩)) (h0 : rd U R b off = some v0) (h1 : rd U R b (off + 1) = some v1) (h2 : rd U R b (off + 2) = some v2) :
    Rd U ⟨dst, .load t x, ty, pos, after, guard⟩ T R (.agg #[v0, v1, v2]) :=
  rd_loadA U (vs := [v0, v1, v2]) ht hx rfl fun j v h => by
    match j, h with
    | 0, h => cases h; exact h0
    | 1, h => cases h; exact h1
    | 2, h => cases h; exact h2
theorem rd_indexAddr {t e sz b off len cap : Nat} {k : IntKind} {j : Int} (hu : P.underlying t = some (.slice e)) (he' : (P.info? e).map (·.size) = some sz)
    (hx : ev T x = .slice (some ⟨b, off, none⟩) len cap) (hi : ev T i = .int k j) (h0 : 0 ≤ j) (h1 : j < len) :
    Rd U ⟨dst, .indexAddr t x i, ty, pos, after, guard⟩ T R (.pointer (some ⟨b, off + j.toNat * sz, none⟩)) := fun a w he hh => by
  cases hinf : P.info? e with
  | none => rw [hinf] at he'; simp at he'
  | some inf =>
    rw [hinf] at he'; simp at he'
    simp [execOp, he, hx, hi, Instr.indexAt, asIntOf, run_underlying hu, h0, h1, run_sizeOf' hinf, he', add_none]
theorem rd_len {t e len cap : Nat} {p : Option Addr} {ats : Array TypeId} (hats : ats = #[t]) (hu : P.underlying t = some (.slice e)) (hx : ev T x = .slice p len cap) :
    Rd U ⟨dst, .call ⟨.builtin .len, #[x], ats⟩, ty, pos, after, guard⟩ T R (.int .i64 len) := fun a w he hh => by
  subst hats
  simp [execOp, resolve, invoke, builtin, Builtin.len_, he, hx, run_underlying hu, goInt]
theorem rd_field1 {t k o : Nat} {cs : Array Value} {v : Value} (fs : Array Field) (f : Field) (hu : P.underlying t = some (.struct fs)) (hf : fs[k]? = some f) (ho : f.offset = o) (ht : eltB f.type 1 false = true)
    (hx : ev T x = .agg cs) (hv : cs[o]? = some v) : Rd U ⟨dst, .field t x k, ty, pos, after, guard⟩ T R v := fun a w he hh => by
  obtain ⟨d, inf, hu', hi, ha, hs⟩ := eltB_out ht
  simp [execOp, he, hx, Instr.field, run_underlying hu, hf, asAgg, part, run_isAgg hu', ha, ho, hv]
theorem rd_extract {k : Nat} {vs : Array Value} {v : Value} (hx : ev T x = .tuple vs) (hv : vs[k]? = some v) : Rd U ⟨dst, .extract x k, ty, pos, after, guard⟩ T R v := fun a w he hh => by
  simp [execOp, he, hx, Instr.extract, hv]
theorem rd_makeFunc {fn : Fn} {fs cs : Array Operand} : Rd U ⟨dst, .makeFunc fn fs cs, ty, pos, after, guard⟩ T R (.func fn (fs.toList.map (ev T)).toArray (cs.toList.map (ev T)).toArray) := fun a w he hh => by
  have h : ∀ xs : Array Operand, xs.map a.eval = (xs.toList.map (ev T)).toArray := fun xs => by
    rw [Array.map_congr_left fun x _ => he x]; apply Array.ext'; simp
  simp only [execOp, Instr.makeFunc, h, Sem.run_bind, Sem.run_pure, Result.andThen_ok]
theorem rd_build {t : Nat} {ps : Array (Nat × Operand)} {cells : Array Value} (h : P.built t (ps.toList.map fun p => (p.1, ev T p.2)) = some cells) :
    Rd U ⟨dst, .build t ps, ty, pos, after, guard⟩ T R (.agg cells) := fun a w he hh => by
  have hp : (ps.map fun p => (p.1, a.eval p.2)) = ps.map fun p => (p.1, ev T p.2) := Array.map_congr_left fun p _ => by rw [he]
  have := run_build w t (ps.map fun p => (p.1, ev T p.2)) cells (by simpa using h)
  simp only [execOp]
  rw [show (ps.map fun (i, x) => (i, a.eval x)) = ps.map fun p => (p.1, ev T p.2) from hp]
  simp [this]
theorem rd_nilCheck {p : Addr} (hx : ev T x = .pointer (some p)) : Rd U ⟨dst, .nilCheck x, ty, pos, after, guard⟩ T R (.pointer (some p)) := fun a w he hh => by
  simp [execOp, he, hx]
/-! ### Whole numbers -/
theorem wrap_id {z : Int} (h : -9223372036854775808 ≤ z) (h' : z < 9223372036854775808) : IntKind.i64.wrap z = z := by rw [IntKind.wrap_i64]; omega
section
variable {p q : Int} {t u : Nat}
theorem rd_add (hx : ev T x = .int .i64 p) (hy : ev T y = .int .i64 q) (h : -9223372036854775808 ≤ p + q) (h' : p + q < 9223372036854775808) :
    Rd U ⟨dst, .binOp .add t x y u, ty, pos, after, guard⟩ T R (.int .i64 (p + q)) := fun a w he hh => by
  simp [execOp, eqGuard, binOp, Op.intArith, he, hx, hy, wrap_id h h']
theorem rd_sub' (hx : ev T x = .int .i64 p) (hy : ev T y = .int .i64 q) (h : -9223372036854775808 ≤ p - q) (h' : p - q < 9223372036854775808) :
    Rd U ⟨dst, .binOp .sub t x y u, ty, pos, after, guard⟩ T R (.int .i64 (p - q)) := fun a w he hh => by
  simp [execOp, eqGuard, binOp, Op.intArith, he, hx, hy, wrap_id h h']
theorem rd_mul (hx : ev T x = .int .i64 p) (hy : ev T y = .int .i64 q) (h : -9223372036854775808 ≤ p * q) (h' : p * q < 9223372036854775808) :
    Rd U ⟨dst, .binOp .mul t x y u, ty, pos, after, guard⟩ T R (.int .i64 (p * q)) := fun a w he hh => by
  simp [execOp, eqGuard, binOp, Op.intArith, he, hx, hy, wrap_id h h']
theorem rd_rem (hx : ev T x = .int .i64 p) (hy : ev T y = .int .i64 q) (h : q ≠ 0) : Rd U ⟨dst, .binOp .rem t x y u, ty, pos, after, guard⟩ T R (.int .i64 (p.tmod q)) := fun a w he hh => by
  simp [execOp, eqGuard, binOp, Op.intDiv, he, hx, hy, h]
theorem rd_lss {k : IntKind} (hx : ev T x = .int k p) (hy : ev T y = .int k q) : Rd U ⟨dst, .binOp .lss t x y u, ty, pos, after, guard⟩ T R (.bool (decide (p < q))) := fun a w he hh => by
  simp [execOp, eqGuard, binOp, Op.intCmp, he, hx, hy]
theorem rd_leq {k : IntKind} (hx : ev T x = .int k p) (hy : ev T y = .int k q) : Rd U ⟨dst, .binOp .leq t x y u, ty, pos, after, guard⟩ T R (.bool (decide (p ≤ q))) := fun a w he hh => by
  simp [execOp, eqGuard, binOp, Op.intCmp, he, hx, hy]
theorem rd_gtr {k : IntKind} (hx : ev T x = .int k p) (hy : ev T y = .int k q) : Rd U ⟨dst, .binOp .gtr t x y u, ty, pos, after, guard⟩ T R (.bool (decide (q < p))) := fun a w he hh => by
  simp [execOp, eqGuard, binOp, Op.intCmp, he, hx, hy]
theorem rd_geq {k : IntKind} (hx : ev T x = .int k p) (hy : ev T y = .int k q) : Rd U ⟨dst, .binOp .geq t x y u, ty, pos, after, guard⟩ T R (.bool (decide (q ≤ p))) := fun a w he hh => by
  simp [execOp, eqGuard, binOp, Op.intCmp, he, hx, hy]
theorem rd_eql {k : IntKind} (hx : ev T x = .int k p) (hy : ev T y = .int k q) : Rd U ⟨dst, .binOp .eql t x y u, ty, pos, after, guard⟩ T R (.bool (decide (p = q))) := fun a w he hh => by
  simp [execOp, eqGuard, binOp, Op.intCmp, he, hx, hy]
  by_cases h : p = q <;> simp [h]
theorem rd_neq {k : IntKind} (hx : ev T x = .int k p) (hy : ev T y = .int k q) : Rd U ⟨dst, .binOp .neq t x y u, ty, pos, after, guard⟩ T R (.bool (decide (p ≠ q))) := fun a w he hh => by
  simp [execOp, eqGuard, binOp, Op.intCmp, he, hx, hy]
  by_cases h : p = q <;> simp [h]
theorem rd_shl {k : IntKind} (hx : ev T x = .int .i64 p) (hy : ev T y = .int k q) (h0 : 0 ≤ q) (h1 : q ≤ 64) (h : -9223372036854775808 ≤ p * 2 ^ q.toNat) (h' : p * 2 ^ q.toNat < 9223372036854775808) :
    Rd U ⟨dst, .binOp .shl t x y u, ty, pos, after, guard⟩ T R (.int .i64 (p * 2 ^ q.toNat)) := fun a w he hh => by
  have hm : min q.toNat IntKind.i64.bits = q.toNat := by simp [IntKind.bits]; omega
  simp [execOp, eqGuard, binOp, Op.shift, he, hx, hy, Int.not_lt.2 h0, hm, wrap_id h h']
theorem rd_shr {k : IntKind} (hx : ev T x = .int .i64 p) (hy : ev T y = .int k q) (h0 : 0 ≤ q) (h1 : q ≤ 64) :
    Rd U ⟨dst, .binOp .shr t x y u, ty, pos, after, guard⟩ T R (.int .i64 (p / 2 ^ q.toNat)) := fun a w he hh => by
  have hm : min q.toNat IntKind.i64.bits = q.toNat := by simp [IntKind.bits]; omega
  simp [execOp, eqGuard, binOp, Op.shift, he, hx, hy, Int.not_lt.2 h0, hm]
  rw [Int.fdiv_eq_ediv_of_nonneg]
  exact Int.le_of_lt (Int.pow_pos (by decide))
theorem rd_bits {op : BinOp} {v : Value} (hop : op = .and ∨ op = .or) (hx : ev T x = .int .i64 p) (hy : ev T y = .int .i64 q) (hv : ∀ w, (Op.intBits op .i64 p q).run P w = .ok v w) :
    Rd U ⟨dst, .binOp op t x y u, ty, pos, after, guard⟩ T R v := fun a w he hh => by
  rcases hop with rfl | rfl <;> simp [execOp, eqGuard, binOp, he, hx, hy, hv]
theorem rd_not {c : Bool} (hx : ev T x = .bool c) : Rd U ⟨dst, .unOp .not t x, ty, pos, after, guard⟩ T R (.bool !c) := fun a w he hh => by
  simp [execOp, he, hx, Op.unary]
theorem rd_conv {k k' : IntKind} {d : TypeDesc} (hs : P.underlying t = some d) (hd : P.underlying u = some (.int k')) (hx : ev T x = .int k p) : Rd U ⟨dst, .convert t u x, ty, pos, after, guard⟩ T R (.int k' (k'.wrap p)) := fun a w he hh => by
  simp [execOp, he, hx, convert, run_underlying hs, run_underlying hd, Conv.intToInt]
end
end Go.Proofs.YtdmodppoellbkaaGreat
namespace Go.Proofs.YtdmodppoellbkaaGreat
open Go Go.RowKit
variable (U : Cx)
/-! ### How what is known turns with memory -/
theorem Blk.holds_mono {w w' : World} {b : Nat} {o : Blk} (h : o.holds w b) (hb : w'.heap[b]? = w.heap[b]?) (hit : ∀ es it left cur, o = .mapr es it left cur → w'.heap[it]? = w.heap[it]?) (hs : w.heap.size ≤ w'.heap.size) : o.holds w' b := by
  cases o with
  | row e base cs tot => obtain ⟨c, hc, r⟩ := h; exact ⟨c, by rw [hb]; exact hc, r⟩
  | map es => obtain ⟨en, clock, hc, r⟩ := h; exact ⟨en, clock, by rw [hb]; exact hc, r⟩
  | mapr es it left cur =>
    obtain ⟨en, clock, seen, hc, h1, h2, h3, h4, h5, r⟩ := h
    exact ⟨en, clock, seen, by rw [hb]; exact hc, h1, h2, h3, Nat.lt_of_lt_of_le h4 hs, by rw [hit _ _ _ _ rfl]; exact h5, r⟩
  | obj o => exact hb.trans h
theorem mapr_lt {w : World} {b it : Nat} {es left : List (Value × Value)} {cur : Option (Value × Value)} (h : (Blk.mapr es it left cur).holds w b) : it < w.heap.size := by
  obtain ⟨en, clock, seen, hc, h1, h2, h3, h4, r⟩ := h; exact h4
def Blk.plain : Blk → Bool | .mapr .. => false | _ => true
theorem Apart.hset {H : Hp} {c : Nat} {o : Blk} (h : Apart U H) (ho : o.plain = true) (hc : ∀ b es it left cur, H b = some (.mapr es it left cur) → it ≠ c) : Apart U (hset H c o) := by
  intro b es it left cur hb
  unfold YtdmodppoellbkaaGreat.hset at hb ⊢
  by_cases hbc : b = c
  · rw [if_pos hbc] at hb; cases hb; cases ho
  · rw [if_neg hbc] at hb
    obtain ⟨h1, h2, h3⟩ := h b es it left cur hb
    refine ⟨h1, by rw [if_neg (hc b es it left cur hb)]; exact h2, ?_⟩
    intro b' es' it' left' cur' hb'
    by_cases hbc' : b' = c
    · rw [if_pos hbc'] at hb'; cases hb'; cases ho
    · rw [if_neg hbc'] at hb'; exact h3 b' es' it' left' cur' hb'
theorem Apart.hdel {H : Hp} {c : Nat} (h : Apart U H) : Apart U (hdel H c) := by
  intro b es it left cur hb
  unfold YtdmodppoellbkaaGreat.hdel at hb ⊢
  by_cases hbc : b = c
  · rw [if_pos hbc] at hb; cases hb
  · rw [if_neg hbc] at hb
    obtain ⟨h1, h2, h3⟩ := h b es it left cur hb
    refine ⟨h1, by split <;> first|rfl | exact h2, ?_⟩
    intro b' es' it' left' cur' hb'
    by_cases hbc' : b' = c
    · rw [if_pos hbc'] at hb'; cases hb'
    · rw [if_neg hbc'] at hb'; exact h3 b' es' it' left' cur' hb'
theorem Own.del {H : Hp} {N : Nat} {w : World} (h : Own U H N w) (c : Nat) : Own U (hdel H c) N w :=
  ⟨h.below, fun b o e => by unfold hdel at e; split at e; cases e; exact h.blk b o e, h.size, fun b o e => by unfold hdel at e; split at e; cases e; exact h.lt b o e, h.hBN, h.apart.hdel U, h.dr⟩
theorem Own.sub {H R : Hp} {N : Nat} {w : World} (h : Own U H N w) (hs : Sub R H) (ha : Apart U R) : Own U R N w :=
  ⟨h.below, fun b o e => h.blk b o (hs b o e), h.size, fun b o e => h.lt b o (hs b o e), h.hBN, ha, h.dr⟩
/-- A new block. -/
theorem Own.alloc {H : Hp} {N : Nat} {w : World} (h : Own U H N w) (obj : Obj) {o : Blk} (ho : o.holds (w.alloc obj) N) (hp : o.plain = true) : Own U (hset H N o) (N + 1) (w.alloc obj) := by
  have hsz : (w.alloc obj).heap.size = N + 1 := by show (w.heap.push obj).size = _; simp [h.size]
  have hold : ∀ k, k < N → (w.alloc obj).heap[k]? = w.heap[k]? := fun k hk => Below.heap_alloc w obj k (by rw [h.size]; exact hk)
  have hit : ∀ b es it left cur, H b = some (.mapr es it left cur) → it < N := fun b es it left cur e => by
    have := mapr_lt (h.blk b _ e).2
    rw [h.size] at this; exact this
  refine ⟨h.below.alloc (by rw [h.size]; exact h.hBN) obj, ?_, hsz, ?_, by have := h.hBN; omega, h.apart.hset U hp (fun b es it left cur e => by have := hit b es it left cur e; omega), h.dr⟩
  · intro b o' e
    unfold hset at e
    by_cases hb : b = N
    · rw [if_pos hb] at e; cases e; subst hb; exact ⟨h.hBN, ho⟩
    · rw [if_neg hb] at e
      have hlt := h.lt b o' e
      exact ⟨(h.blk b o' e).1, Blk.holds_mono (h.blk b o' e).2 (hold b hlt) (fun es it left cur eo => hold it (hit b es it left cur (eo ▸ e))) (by rw [hsz, h.size]; omega)⟩
  · intro b o' e
    unfold hset at e
    by_cases hb : b = N
    · omega
    · rw [if_neg hb] at e; have := h.lt b o' e; omega
/-- A block that was there is turned. -/
theorem Own.turn {H : Hp} {N : Nat} {w w' : World} (h : Own U H N w) {c : Nat} {old o : Blk} (hc : H c = some old) (ho : o.holds w' c) (hp : o.plain = true)
    (h1 : w'.os = w.os) (h2 : w'.tape = w.tape) (h3 : w'.output = w.output) (h4 : w'.heap.size = w.heap.size) (h5 : ∀ k, k ≠ c → w'.heap[k]? = w.heap[k]?) (h6 : w.drawn ≤ w'.drawn) : Own U (hset H c o) N w' := by
  have hcB := (h.blk c _ hc).1
  refine ⟨h.below.trans ⟨h1, h2, h3, by omega, fun k hk => h5 k (by omega)⟩, ?_, by rw [h4, h.size], ?_, h.hBN, h.apart.hset U hp (fun b es it left cur e heq => by have := (h.apart b es it left cur e).2.1; rw [heq, hc] at this; cases this), Nat.le_trans h.dr h6⟩
  · intro b o' e
    unfold hset at e
    by_cases hb : b = c
    · rw [if_pos hb] at e; cases e; subst hb; exact ⟨hcB, ho⟩
    · rw [if_neg hb] at e
      refine ⟨(h.blk b o' e).1, Blk.holds_mono (h.blk b o' e).2 (h5 b hb) (fun es it left cur eo => h5 it ?_) (by omega)⟩
      intro heq
      subst eo
      have := (h.apart b es it left cur e).2.1
      rw [heq, hc] at this
      cases this
  · intro b o' e
    unfold hset at e
    by_cases hb : b = c
    · subst hb; exact h.lt b old hc
    · rw [if_neg hb] at e; exact h.lt b o' e
theorem row_new (w : World) (e : Nat) (c : Array Value) : (Blk.row e 0 c.toList c.size).holds (w.alloc (.cells c e)) w.heap.size :=
  ⟨c, by show (w.heap.push _)[w.heap.size]? = _; simp, rfl, by simp, fun i hi => by simp⟩
variable {n : Nat} {T : Tm} {H : Hp} {N : Nat} {dst : Option Tmp} {ty : TypeId} {pos : String} {after : Array Edge} {guard : Option (Nat × Bool)} {x y z i : Operand} {K : Value → Hp → Nat → Prop}
/-! ### New blocks -/
theorem op_box {t : Nat} {v : Value} {cs : List Value} (hx : ev T x = v) (hcs : v.cells.toList = cs)
    (hk : K (.pointer (some ⟨N, 0, none⟩)) (hset H N (.row t 0 cs cs.length)) (N + 1)) : OpW U ⟨dst, .box t x, ty, pos, after, guard⟩ T H N K :=
  opw_of_run U fun a w he ho => by
    refine ⟨.pointer (some ⟨N, 0, none⟩), w.alloc (.cells v.cells t), hset H N (.row t 0 cs cs.length), N + 1, ?_, ?_, hk⟩
    · simp [execOp, Instr.box, newVar, newRow, he, hx, ho.size]
    · have := row_new w t v.cells
      rw [ho.size] at this
      subst hcs
      rw [Array.length_toList]
      exact ho.alloc U _ this rfl
theorem op_alloc {t : Nat} {v : Value} {cs : List Value} (hz : (P.info? t).map (·.zero) = some (some v)) (hcs : v.cells.toList = cs)
    (hk : K (.pointer (some ⟨N, 0, none⟩)) (hset H N (.row t 0 cs cs.length)) (N + 1)) : OpW U ⟨dst, .alloc t, ty, pos, after, guard⟩ T H N K :=
  opw_of_run U fun a w he ho => by
    refine ⟨.pointer (some ⟨N, 0, none⟩), w.alloc (.cells v.cells t), hset H N (.row t 0 cs cs.length), N + 1, ?_, ?_, hk⟩
    · cases hi : P.info? t with
      | none => rw [hi] at hz; simp at hz
      | some inf =>
        rw [hi] at hz; simp at hz
        simp [execOp, Instr.alloc, zeroValue, typeInfo, hi, hz, newVar, newRow, ho.size]
    · have := row_new w t v.cells
      rw [ho.size] at this
      subst hcs
      rw [Array.length_toList]
      exact ho.alloc U _ this rfl
theorem madeCells_one (v : Value) (k : Nat) : (madeCells #[v] k).toList = List.replicate k v := by
  apply List.ext_getElem
  · simp [madeCells]
  · intro j h1 h2; simp [madeCells, Nat.mod_one]
theorem op_makeSlice {t e bytes : Nat} {v : Value} {m : Nat} (hs : SlT t e 1 bytes v) (hv : v.cells = #[v]) (hx : ev T x = .int .i64 m) (hy : ev T y = .int .i64 m) (hb : m * bytes ≤ 281474976710656) (hm : m ≤ 9223372036854775807)
    (hk : K (.slice (some ⟨N, 0, none⟩) m m) (hset H N (.row e 0 (List.replicate m v) m)) (N + 1)) : OpW U ⟨dst, .makeSlice t x y, ty, pos, after, guard⟩ T H N K :=
  opw_of_run U fun a w he ho => by
    obtain ⟨inf, hi, hsz, hby, hz⟩ := hs.info
    have hr := run_make (P := P) w t e inf v hs.u hi hz .i64 .i64 (m : Int) (m : Int) (by omega) (by omega) (by rw [hby, Int.mul_comm, ← Int.natCast_mul]; exact Int.ofNat_le.2 hb) (by omega)
    refine ⟨.slice (some ⟨N, 0, none⟩) m m, w.alloc (.cells (madeCells #[v] m) e), _, N + 1, ?_, ?_, hk⟩
    · rw [hv, hsz] at hr
      simp only [Int.toNat_natCast, Nat.mul_one, ho.size] at hr
      simp only [execOp, he, hx, hy, Sem.run_bind, hr, Result.andThen_ok, Sem.run_pure]
    · have := row_new w e (madeCells #[v] m)
      rw [ho.size, madeCells_one, size_madeCells] at this
      exact ho.alloc U _ this rfl
theorem op_buildSlice {t e sz bytes len : Nat} {v : Value} {ps : Array (Nat × Operand)} {cells : Array Value} (hs : SlT t e sz bytes v) (hl0 : 0 < len * sz) (hl1 : len * sz ≤ 16777216)
    (hf : Instr.fill (fun i => some (i * sz, sz)) ((Array.range (len * sz)).map (v.cells[· % v.cells.size]!)) (ps.toList.map fun p => (p.1, ev T p.2)) = some cells)
    (hk : K (.slice (some ⟨N, 0, none⟩) len len) (hset H N (.row e 0 cells.toList cells.size)) (N + 1)) : OpW U ⟨dst, .buildSlice t len ps, ty, pos, after, guard⟩ T H N K :=
  opw_of_run U fun a w he ho => by
    obtain ⟨inf, hi, hsz, hby, hz⟩ := hs.info
    have hp : (ps.map fun (i, x) => (i, a.eval x)) = ps.map fun p => (p.1, ev T p.2) := Array.map_congr_left fun p _ => by obtain ⟨j, u⟩ := p; simp only [he]
    refine ⟨.slice (some ⟨N, 0, none⟩) len len, w.alloc (.cells cells e), _, N + 1, ?_, ?_, hk⟩
    · have h0 : ¬ (len * sz = 0) := by omega
      have h1 : ¬ (16777216 < len * sz) := by omega
      simp only [execOp, hp]
      simp [Instr.buildSlice, run_underlying hs.u, run_sizeOf' hi, hsz, h0, h1, zeroValue, typeInfo, hi, hz, hf, newRow, ho.size]
    · have := row_new w e cells
      rw [ho.size] at this
      exact ho.alloc U _ this rfl
/-! ### Stores -/
def splice (cs : List Value) (i : Nat) (vs : List Value) : List Value := cs.take i ++ vs ++ cs.drop (i + vs.length)
theorem splice_one {cs : List Value} {i : Nat} (v : Value) (h : i < cs.length) : splice cs i [v] = cs.set i v := by
  unfold splice
  rw [List.set_eq_take_append_cons_drop, if_pos h]
  simp
theorem length_splice {cs : List Value} {i : Nat} {vs : List Value} (h : i + vs.length ≤ cs.length) : (splice cs i vs).length = cs.length := by
  simp [splice]; omega
theorem splice_get {cs : List Value} {i : Nat} {vs : List Value} (h : i + vs.length ≤ cs.length) (j : Nat) : (splice cs i vs)[j]? = if j < i then cs[j]? else if j < i + vs.length then vs[j - i]? else cs[j]? := by
  unfold splice
  have hl : (List.take i cs).length = i := by simp; omega
  rw [List.append_assoc, List.getElem?_append, hl]
  split
  · rename_i hj; rw [List.getElem?_take, if_pos hj]
  · rename_i hj
    rw [List.getElem?_append]
    by_cases h2 : j < i + vs.length
    · rw [if_pos (by omega), if_pos h2]
    · rw [if_neg (by omega), if_neg h2, List.getElem?_drop]
      congr 1; omega
theorem row_store {w : World} {b e base tot off : Nat} {cs vs : List Value} (h : (Blk.row e base cs tot).holds w b) (h0 : base ≤ off) (h1 : off - base + vs.length ≤ cs.length) (hv : ∀ u ∈ vs, u.oneCell' = true) :
    ∃ w', (storeCells ⟨b, off, none⟩ vs).run P w = .ok () w' ∧ (Blk.row e base (splice cs (off - base) vs) tot).holds w' b ∧ w'.os = w.os ∧ w'.tape = w.tape ∧ w'.output = w.output ∧ w'.heap.size = w.heap.size ∧ (∀ k, k ≠ b → w'.heap[k]? = w.heap[k]?) ∧ w'.drawn = w.drawn := by
  obtain ⟨c, hc, hsz, hlen, hcs⟩ := h
  have hr := run_storeCells_at P b off e vs 0 c w hc (by omega) hv
  simp only [Nat.add_zero] at hr
  refine ⟨_, hr, ⟨_, setRow_heap w b c _ e _ hc, ?_, ?_, ?_⟩, rfl, rfl, rfl, by simp [World.setRow], fun k hk => setRow_other w b k _ hk, rfl⟩
  · simp; omega
  · rw [length_splice h1]; exact hlen
  · intro j hj
    rw [length_splice h1] at hj
    rw [splice_get h1]
    have hl : (List.take off c.toList).length = off := by simp; omega
    rw [List.getElem?_toArray, List.append_assoc, List.getElem?_append, hl]
    by_cases h2 : base + j < off
    · rw [if_pos h2, if_pos (by omega), List.getElem?_take, if_pos h2, Array.getElem?_toList]; exact hcs j hj
    · rw [if_neg h2, if_neg (by omega), List.getElem?_append]
      by_cases h3 : base + j < off + vs.length
      · rw [if_pos (by omega), if_pos (by omega)]; congr 1; omega
      · rw [if_neg (by omega), if_neg (by omega), List.getElem?_drop, Array.getElem?_toList, ← hcs j hj]; congr 1; omega
theorem op_store {t b off e base tot k : Nat} {agg : Bool} {v : Value} {cs vs : List Value} (ht : eltB t k agg = true) (hx : ev T x = .pointer (some ⟨b, off, none⟩)) (hy : ev T y = v) (hv : v.cells.toList = vs) (hl : vs.length = k)
    (h1 : ∀ u ∈ vs, u.oneCell' = true) (hH : H b = some (.row e base cs tot)) (hb0 : base ≤ off) (hb1 : off - base + k ≤ cs.length)
    (hk : K undef (hset H b (.row e base (splice cs (off - base) vs) tot)) N) : OpW U ⟨dst, .store t x y, ty, pos, after, guard⟩ T H N K :=
  opw_of_skip U fun a w he ho => by
    obtain ⟨d, inf, hu, hi, ha, hs⟩ := eltB_out ht
    obtain ⟨w', hr, hh, g1, g2, g3, g4, g5, g6⟩ := row_store (ho.blk b _ hH).2 hb0 (by omega) h1
    refine ⟨w', _, N, ?_, ho.turn U hH hh rfl g1 g2 g3 g4 g5 (Nat.le_of_eq g6.symm), hk⟩
    have hsz : v.cells.size = k := by rw [← hl, ← hv, Array.length_toList]
    simp [execOp, he, hx, hy, Instr.storeAt, Instr.sureAddr, storeVar, run_sizeOf' hi, hs, hsz, hv, hr]
theorem op_store1 {t b off e base tot : Nat} {v : Value} {cs : List Value} (ht : eltB t 1 false = true) (hx : ev T x = .pointer (some ⟨b, off, none⟩)) (hy : ev T y = v) (hv : v.cells.toList = [v])
    (h1 : v.oneCell' = true) (hH : H b = some (.row e base cs tot)) (hb0 : base ≤ off) (hb1 : off - base < cs.length)
    (hk : K undef (hset H b (.row e base (cs.set (off - base) v) tot)) N) : OpW U ⟨dst, .store t x y, ty, pos, after, guard⟩ T H N K :=
  op_store U ht hx hy hv rfl (by simpa using h1) hH hb0 hb1 (by rw [splice_one v hb1]; exact hk)
/-! ### append -/
/-- A slice of the call's own: nil, or the one that knows its row. -/
def IsSl (H : Hp) (v : Value) (e sz : Nat) (cs : List Value) : Prop :=
  (v = .slice none 0 0 ∧ cs = []) ∨ ∃ b off k cap tot, v = .slice (some ⟨b, off, none⟩) k cap ∧ H b = some (.row e off cs tot) ∧ cs.length = k * sz ∧ k ≤ cap ∧ off + cap * sz ≤ tot
def hdelV (H : Hp) : Value → Hp
  | .slice (some a) _ _ => hdel H a.block
  | _ => H
theorem run_append_room' {w : World} (t ty e : TypeId) (i : TypeInfo) (ht : P.underlying t = some (.slice e)) (hi : P.info? e = some i) (g off sLen sCap : Nat) (a : Addr) (m c : Nat) (news : List Value) (w' : World)
    (hl : news.length = m * i.size) (hnews : ∀ j u, news[j]? = some u → w.cell? (a.add j) = some u) (hroom : sLen + m ≤ sCap) (hst : (storeCells ⟨g, off + sLen * i.size, none⟩ news).run P w = .ok () w') :
    (Builtin.append_ #[t, t] ty #[.slice (some ⟨g, off, none⟩) sLen sCap, .slice (some a) m c]).run P w = .ok (.slice (some ⟨g, off, none⟩) (sLen + m) sCap) w' := by
  have hf := run_firstCells_some (P := P) w i.size m a m c news hl hnews
  simp [Builtin.append_, run_underlying ht, sizeOf, typeInfo, hi, Builtin.lenOf, hroom, hf, add_none, hst]
theorem zeroCells_size (z : Array Value) (k : Nat) : (Builtin.zeroCells z k).size = k * z.size := by simp [Builtin.zeroCells]
theorem hset_hdel (H : Hp) (b : Nat) (o : Blk) : hset (hdel H b) b o = hset H b o := by funext c; unfold hset hdel; split <;> rfl
theorem op_append {t e sz bytes b2 off2 m cap2 : Nat} {v z0 : Value} {cs ys : List Value} (hs : SlT t e sz bytes z0) (hz0 : z0.cells.size = sz) (hsz : 0 < sz) (hx : ev T x = v) (hv : IsSl H v e sz cs)
    (hy : ev T y = .slice (some ⟨b2, off2, none⟩) m cap2) (hl : ys.length = m * sz) (hys : ∀ j u, ys[j]? = some u → rd U H b2 (off2 + j) = some u) (h1 : ∀ u ∈ ys, u.oneCell' = true) (hm : 0 < m)
    (hbound : (cs.length + ys.length) * bytes ≤ 140737488355328) (hbound2 : cs.length + ys.length ≤ 140737488355328)
    (hk : ∀ b' off' k' cap' tot' N', N ≤ N' → b' < N' → (b' = N ∨ ∃ off k cap, v = .slice (some ⟨b', off, none⟩) k cap) → (cs ++ ys).length = k' * sz → k' ≤ cap' → off' + cap' * sz ≤ tot' →
      K (.slice (some ⟨b', off', none⟩) k' cap') (hset (hdelV H v) b' (.row e off' (cs ++ ys) tot')) N') :
    OpW U ⟨dst, .call ⟨.builtin .append, #[x, y], #[t, t]⟩, ty, pos, after, guard⟩ T H N K :=
  opw_of_run U fun a w he ho => by
    obtain ⟨inf, hi, hisz, hiby, hiz⟩ := hs.info
    have hexec : ∀ r, (Builtin.append_ #[t, t] ty #[v, .slice (some ⟨b2, off2, none⟩) m cap2]).run P w = r → (execOp a.eval ⟨dst, .call ⟨.builtin .append, #[x, y], #[t, t]⟩, ty, pos, after, guard⟩).run P w = r.andThen fun u w' => .ok (.value u) w' := by
      intro r hr
      simp [execOp, resolve, invoke, builtin, he, hx, hy, hr]
    have hcell : ∀ j u, ys[j]? = some u → w.cell? ((⟨b2, off2, none⟩ : Addr).add j) = some u := fun j u h => by rw [add_none]; exact ho.hold.rd U (hys j u h)
    have hmsz : m ≤ m * sz := Nat.le_mul_of_pos_right _ hsz
    have hcapge : ∀ need old, need ≤ grownCap w need old e := fun need old => by unfold grownCap Question.cut; exact Nat.le_add_right _ _
    -- a new block
    have hnew : ∀ (k : Nat) (olds : List Value) (cap : Nat), olds = cs → cs.length = k * sz →
        ((w.drew.alloc (.cells (olds.toArray ++ ys.toArray ++ Builtin.zeroCells z0.cells (grownCap w (k + m) cap e - (k + m))) e))).heap.size = N + 1 ∧
        Own U (hset (hdelV H v) N (.row e 0 (cs ++ ys) (grownCap w (k + m) cap e * sz))) (N + 1) (w.drew.alloc (.cells (olds.toArray ++ ys.toArray ++ Builtin.zeroCells z0.cells (grownCap w (k + m) cap e - (k + m))) e)) := by
      intro k olds cap holds hk'
      subst holds
      have hod : Own U (hdelV H v) N w.drew := by
        have h0 : Own U H N w.drew := ho.drawn U _ (Nat.le_succ _)
        unfold hdelV; split
        · exact h0.del U _
        · exact h0
      have hge := hcapge (k + m) cap
      have htot : (olds.toArray ++ ys.toArray ++ Builtin.zeroCells z0.cells (grownCap w (k + m) cap e - (k + m))).size = grownCap w (k + m) cap e * sz := by
        simp only [Array.size_append, List.size_toArray, zeroCells_size, hz0, hl, hk']
        rw [← Nat.add_mul, ← Nat.add_mul, Nat.add_sub_cancel' hge]
      refine ⟨by show (w.heap.push _).size = _; simp [ho.size], ?_⟩
      have hN : w.drew.heap.size = N := ho.size
      refine hod.alloc U _ ⟨_, by show (w.heap.push _)[N]? = _; rw [← hN]; exact Array.getElem?_push_size, htot, ?_, ?_⟩ rfl
      · rw [List.length_append, hl, hk', Nat.zero_add, ← Nat.add_mul]; exact Nat.mul_le_mul_right _ hge
      · intro j hj
        rw [Nat.zero_add]
        simp only [List.length_append] at hj
        rw [Array.getElem?_append_left (by simpa using hj)]
        rw [show (olds.toArray ++ ys.toArray) = (olds ++ ys).toArray by simp, List.getElem?_toArray]
    rcases hv with ⟨rfl, rfl⟩ | ⟨b, off, k, cap, tot, rfl, hH, hcl, hkc, htot⟩
    · have hr := run_append_nil (P := P) w t ty e inf z0 hs.u hi hiz ⟨b2, off2, none⟩ m cap2 ys (by rw [hisz]; exact hl) hcell hm (by simp at hbound2; omega) (by
        rw [hiby]; simp at hbound
        have : m * bytes ≤ ys.length * bytes := Nat.mul_le_mul_right _ (by omega)
        omega)
      obtain ⟨_, hown⟩ := hnew 0 [] 0 rfl (by simp)
      simp only [Nat.zero_add] at hown
      refine ⟨_, _, _, N + 1, by rw [hexec _ hr]; rfl, by simpa using hown, ?_⟩
      rw [ho.size]
      refine hk N 0 m (grownCap w m 0 e) _ (N + 1) (by omega) (by omega) (.inl rfl) (by simpa using hl) (hcapge _ _) (by omega)
    · by_cases hroom : k + m ≤ cap
      · have hst : ∃ w', (storeCells ⟨b, off + k * sz, none⟩ ys).run P w = .ok () w' ∧ (Blk.row e off (cs ++ ys) tot).holds w' b ∧ w'.os = w.os ∧ w'.tape = w.tape ∧ w'.output = w.output ∧ w'.heap.size = w.heap.size ∧ (∀ k, k ≠ b → w'.heap[k]? = w.heap[k]?) ∧ w'.drawn = w.drawn := by
          obtain ⟨c, hc, hsz', hlen, hcs⟩ := (ho.blk b _ hH).2
          have hfit : off + k * sz + ys.length ≤ tot := by
            have : (k + m) * sz ≤ cap * sz := Nat.mul_le_mul_right _ hroom
            rw [Nat.add_mul] at this
            omega
          have hr := run_storeCells_at P b (off + k * sz) e ys 0 c w hc (by omega) h1
          simp only [Nat.add_zero] at hr
          refine ⟨_, hr, ⟨_, setRow_heap w b c _ e _ hc, ?_, ?_, ?_⟩, rfl, rfl, rfl, by simp [World.setRow], fun j hj => setRow_other w b j _ hj, rfl⟩
          · simp; omega
          · simp; omega
          · intro j hj
            simp only [List.length_append] at hj
            have hl' : (List.take (off + k * sz) c.toList).length = off + k * sz := by simp; omega
            rw [List.getElem?_toArray, List.append_assoc, List.getElem?_append, hl', List.getElem?_append (l₁ := cs)]
            by_cases h2 : j < cs.length
            · rw [if_pos (by omega), if_pos h2, List.getElem?_take, if_pos (by omega), Array.getElem?_toList]; exact hcs j h2
            · rw [if_neg (by omega), if_neg h2, List.getElem?_append, if_pos (by omega)]; congr 1; omega
        obtain ⟨w', hst, hh, g1, g2, g3, g4, g5, g6⟩ := hst
        have hr := run_append_room' t ty e inf hs.u hi b off k cap ⟨b2, off2, none⟩ m cap2 ys w' (by rw [hisz]; exact hl) hcell hroom (by rw [hisz]; exact hst)
        refine ⟨_, w', hset (hdelV H (.slice (some ⟨b, off, none⟩) k cap)) b (.row e off (cs ++ ys) tot), N, by rw [hexec _ hr]; rfl, ?_, ?_⟩
        · simp only [hdelV, hset_hdel]; exact ho.turn U hH hh rfl g1 g2 g3 g4 g5 (Nat.le_of_eq g6.symm)
        · exact hk b off (k + m) cap tot N (Nat.le_refl _) (ho.lt b _ hH) (.inr ⟨_, _, _, rfl⟩) (by rw [List.length_append, hcl, hl, Nat.add_mul]) hroom htot
      · have holds : ∀ j u, cs[j]? = some u → w.cell? ((⟨b, off, none⟩ : Addr).add j) = some u := fun j u h => by
          rw [add_none]
          refine ho.hold.rd U ?_
          rw [rrw U (ho.blk b _ hH).1 hH, if_pos (by omega)]
          rw [show off + j - off = j by omega]; exact h
        have hk1 : k ≤ k * sz := Nat.le_mul_of_pos_right _ hsz
        have hr := run_append_grow (P := P) w t ty e inf z0 hs.u hi hiz ⟨b, off, none⟩ k cap cs (by rw [hisz]; exact hcl) holds ⟨b2, off2, none⟩ m cap2 ys (by rw [hisz]; exact hl) hcell (by omega) (by omega)
          (growslice_fits (by omega) (by rw [hiby]; exact Nat.le_trans (Nat.mul_le_mul_right _ (by omega)) hbound))
        obtain ⟨_, hown⟩ := hnew k cs cap rfl hcl
        refine ⟨_, _, _, N + 1, by rw [hexec _ hr]; rfl, hown, ?_⟩
        rw [ho.size]
        refine hk N 0 (k + m) (grownCap w (k + m) cap e) _ (N + 1) (by omega) (by omega) (.inl rfl) (by rw [List.length_append, hcl, hl, Nat.add_mul]) (hcapge _ _) (by omega)
end Go.Proofs.YtdmodppoellbkaaGreat
namespace Go.Proofs.YtdmodppoellbkaaGreat
open Go Go.RowKit
variable (U : Cx)
/-! ### Keys -/
/-- The first entry of a key, and where it stands. -/
def lookIx {κ : Type} [DecidableEq κ] : List (κ × Value) → κ → Nat → Option (Nat × Value)
  | [], _, _ => none
  | (k', v) :: m, k, i => if k = k' then some (i, v) else lookIx m k (i + 1)
def look {κ : Type} [DecidableEq κ] : List (κ × Value) → κ → Option Value
  | [], _ => none
  | (k', v) :: m, k => if k = k' then some v else look m k
def put {κ : Type} [DecidableEq κ] : List (κ × Value) → κ → Value → List (κ × Value)
  | [], k, v => [(k, v)]
  | (k', u) :: m, k, v => if k = k' then (k, v) :: m else (k', u) :: put m k v
def del {κ : Type} [DecidableEq κ] : List (κ × Value) → κ → List (κ × Value)
  | [], _ => []
  | (k', u) :: m, k => if k = k' then m else (k', u) :: del m k
def encM {κ : Type} (enc : κ → Value) (m : List (κ × Value)) : List (Value × Value) := m.map fun p => (enc p.1, p.2)
structure KeyTy {κ : Type} [DecidableEq κ] (kt : TypeId) (enc : κ → Value) : Prop where
  check : ∀ e k w, (Instr.checkKey e 10000 kt (enc k)).run P w = .ok () w
  find : ∀ (m : List (κ × Value)) (en : List MapEntry) k w, en.map pairOf = encM enc m → (Instr.findKey kt (enc k) en).run P w = .ok (lookIx m k 0) w
  same : ∀ k, Instr.sameBits 10000 (enc k) (enc k) = true
  inj : ∀ a b, enc a = enc b → a = b
def encI (k : Int) : Value := .int .i64 k
def encD (d : Int × Int) : Value := .agg #[.int .i64 d.1, .int .i64 d.2]
theorem key_int : KeyTy 3 encI := {
  check := fun e k w => by
    have hu : P.underlying 3 = some (.int .i64) := by unfold P; kernel_rfl
    rw [show (10000 : Nat) = 9999 + 1 from rfl, Instr.checkKey]
    simp only [encI, Sem.run_bind, run_underlying hu, Result.andThen_ok, Sem.run_pure]
  find := fun m en k w h => by
    have hu : P.underlying 3 = some (.int .i64) := by unfold P; kernel_rfl
    have key : ∀ (m : List (Int × Value)) (en : List MapEntry) (i : Nat), en.map pairOf = encM encI m → Instr.findNow (.int .i64) (encI k) en i = some (lookIx m k i) := by
      intro m
      induction m with
      | nil => intro en i h; simp [encM] at h; subst h; rfl
      | cons p m ih =>
        intro en i h
        obtain ⟨k', v⟩ := p
        cases en with
        | nil => simp [encM] at h
        | cons e en =>
          simp only [List.map_cons, encM, List.cons.injEq] at h
          obtain ⟨h1, h2⟩ := h
          have hk : e.key = encI k' := congrArg Prod.fst h1
          have hv : e.val = v := congrArg Prod.snd h1
          have ih' := ih en (i + 1) h2
          simp only [Instr.findNow, hk]
          simp only [encI, Instr.sameNow, if_true, lookIx, beq_iff_eq] at ih' ⊢
          by_cases hkk : k = k'
          · simp [hkk, hv]
          · have : (k == k') = false := by simp [hkk]
            rw [this, if_neg hkk]; exact ih'
    simp only [Instr.findKey, Sem.run_bind, run_underlying hu, Result.andThen_ok, key m en 0 h, Sem.run_pure]
  same := fun k => by simp [encI, Instr.sameBits]
  inj := fun a b h => by simp [encI] at h; exact h }
theorem dart_fields : ∃ f g : Field, P.underlying 56 = some (.struct #[f, g]) ∧ (f.name == "_") = false ∧ f.type = 3 ∧ f.offset = 0 ∧ (g.name == "_") = false ∧ g.type = 3 ∧ g.offset = 1 := by
  have h : (match P.underlying 56 with | some (.struct fs) => fs.toList.map (fun f => (f.name == "_", f.type, f.offset)) | _ => []) = [(false, 3, 0), (false, 3, 1)] := by unfold P; kernel_rfl
  cases hu : P.underlying 56 with
  | none => rw [hu] at h; simp at h
  | some d =>
    cases d <;> rw [hu] at h <;> try simp at h
    rename_i fs
    obtain ⟨l⟩ := fs
    rcases l with _ | ⟨f, _ | ⟨g, _ | ⟨q, l⟩⟩⟩ <;> simp at h
    exact ⟨f, g, rfl, by simpa using h.1.1, h.1.2.1, h.1.2.2, by simpa using h.2.1, h.2.2.1, h.2.2.2⟩
theorem int_type : P.underlying 3 = some (.int .i64) := by unfold P; kernel_rfl
theorem int_agg (w : World) : (isAgg 3).run P w = .ok false w := run_isAgg int_type w
theorem eq_dart (a b : Int × Int) (w : World) : (Op.equal 56 (encD a) (encD b)).run P w = .ok (decide (a = b)) w := by
  obtain ⟨f, g, hu, f1, f2, f3, g1, g2, g3⟩ := dart_fields
  have hf : P.fieldsOf 56 = #[f, g] := by simp [Program.fieldsOf, hu]
  have hp : P.stoodInHeld 56 = false := by unfold P; kernel_rfl
  unfold Op.equal encD
  rw [show Op.maxDepth = 9999 + 1 from rfl, run_equalIn_struct (P := P) w 9999 56 _ _ (by rw [hf]; exact hu) hp, hf]
  have hn : f.name ≠ "_" := by simpa using f1
  have hn2 : g.name ≠ "_" := by simpa using g1
  simp only [Op.eqFields, if_pos hn, if_pos hn2, f2, f3, g2, g3, Sem.run_bind, part, int_agg, Result.andThen_ok, if_false, Bool.false_eq_true]
  rw [show (9999 : Nat) = 9998 + 1 from rfl]
  obtain ⟨a1, a2⟩ := a
  obtain ⟨b1, b2⟩ := b
  simp [run_equalIn_int (P := P) w 9998 3 .i64 .i64 _ _ int_type, Sem.run_ite, int_agg]
  by_cases h1 : a1 = b1 <;> by_cases h2 : a2 = b2 <;> simp [h1, h2]
theorem key_dart : KeyTy 56 encD := {
  check := fun e k w => by
    obtain ⟨f, g, hu, f1, f2, f3, g1, g2, g3⟩ := dart_fields
    have hn : f.name ≠ "_" := by simpa using f1
    have hn2 : g.name ≠ "_" := by simpa using g1
    have hin : ∀ v, (Instr.checkKey e 9999 3 (.int .i64 v)).run P w = .ok () w := fun v => by
      rw [show (9999 : Nat) = 9998 + 1 from rfl, Instr.checkKey]
      simp only [Sem.run_bind, run_underlying int_type, Result.andThen_ok, Sem.run_pure]
    rw [show (10000 : Nat) = 9999 + 1 from rfl, Instr.checkKey]
    simp only [encD, Sem.run_bind, run_underlying hu, Result.andThen_ok]
    rw [← Array.forIn_toList]
    simp [hn, hn2, f2, f3, g2, g3, part, int_agg, hin]
  find := fun m en k w h => by
    obtain ⟨f, g, hu, f1, f2, f3, g1, g2, g3⟩ := dart_fields
    cases m with
    | nil => simp [encM] at h; subst h; simp [Instr.findKey, run_underlying hu, Instr.findNow, lookIx]
    | cons p m =>
      have key : ∀ (m : List ((Int × Int) × Value)) (en : List MapEntry) (i : Nat), en.map pairOf = encM encD m → (Instr.findAsking 56 (encD k) en i).run P w = .ok (lookIx m k i) w := by
        intro m
        induction m with
        | nil => intro en i h; simp [encM] at h; subst h; simp [Instr.findAsking, lookIx]
        | cons p m ih =>
          intro en i h
          obtain ⟨k', v⟩ := p
          cases en with
          | nil => simp [encM] at h
          | cons e en =>
            simp only [List.map_cons, encM, List.cons.injEq] at h
            obtain ⟨h1, h2⟩ := h
            have hk : e.key = encD k' := congrArg Prod.fst h1
            have hv : e.val = v := congrArg Prod.snd h1
            simp only [Instr.findAsking, Sem.run_bind, hk, eq_dart, Result.andThen_ok, lookIx]
            by_cases hkk : k = k'
            · simp [hkk, hv]
            · simp [hkk]; exact ih en (i + 1) h2
      cases en with
      | nil => simp [encM] at h
      | cons e en =>
        have hk : e.key = encD p.1 := by simp only [List.map_cons, encM, List.cons.injEq] at h; exact congrArg Prod.fst h.1
        have h0 : Instr.findNow (.struct #[f, g]) (encD k) (e :: en) 0 = none := by simp [Instr.findNow, Instr.sameNow]
        simp only [Instr.findKey, Sem.run_bind, run_underlying hu, Result.andThen_ok, h0, key (p :: m) (e :: en) 0 h]
  same := fun k => by
    rw [show (10000 : Nat) = 9999 + 1 from rfl]
    simp [encD, Instr.sameBits]
  inj := fun a b h => by
    obtain ⟨a1, a2⟩ := a; obtain ⟨b1, b2⟩ := b
    simp [encD] at h; simp [h] }
section
variable {κ : Type} [DecidableEq κ]
theorem lookIx_some {m : List (κ × Value)} {k : κ} : ∀ {i j : Nat} {v : Value}, lookIx m k i = some (j, v) → i ≤ j ∧ m[j - i]? = some (k, v) ∧ look m k = some v := by
  induction m with
  | nil => intro i j v h; simp [lookIx] at h
  | cons p m ih =>
    intro i j v h
    obtain ⟨k', u⟩ := p
    simp only [lookIx] at h
    by_cases hk : k = k'
    · rw [if_pos hk] at h; cases h; exact ⟨Nat.le_refl _, by simp [hk], by simp [look, hk]⟩
    · rw [if_neg hk] at h
      obtain ⟨h1, h2, h3⟩ := ih h
      refine ⟨by omega, ?_, by simp [look, hk, h3]⟩
      rw [show j - i = (j - (i + 1)) + 1 by omega]; simpa using h2
theorem lookIx_none {m : List (κ × Value)} {k : κ} : ∀ {i : Nat}, lookIx m k i = none → look m k = none := by
  induction m with
  | nil => intro i h; rfl
  | cons p m ih =>
    intro i h
    obtain ⟨k', u⟩ := p
    simp only [lookIx] at h
    by_cases hk : k = k'
    · rw [if_pos hk] at h; cases h
    · rw [if_neg hk] at h; simp [look, hk, ih h]
theorem put_none {m : List (κ × Value)} {k : κ} {v : Value} : ∀ {i : Nat}, lookIx m k i = none → put m k v = m ++ [(k, v)] := by
  induction m with
  | nil => intro i h; rfl
  | cons p m ih =>
    intro i h
    obtain ⟨k', u⟩ := p
    simp only [lookIx] at h
    by_cases hk : k = k'
    · rw [if_pos hk] at h; cases h
    · rw [if_neg hk] at h; simp [put, hk, ih h]
theorem put_some {m : List (κ × Value)} {k : κ} {v : Value} : ∀ {i j : Nat} {u : Value}, lookIx m k i = some (j, u) → put m k v = m.set (j - i) (k, v) := by
  induction m with
  | nil => intro i j u h; simp [lookIx] at h
  | cons p m ih =>
    intro i j u h
    obtain ⟨k', u'⟩ := p
    have h' := h
    simp only [lookIx] at h
    by_cases hk : k = k'
    · rw [if_pos hk] at h; cases h; simp [put, hk]
    · rw [if_neg hk] at h
      have := (lookIx_some h).1
      simp only [put, if_neg hk, ih h]
      rw [show j - i = (j - (i + 1)) + 1 by omega]; simp
theorem del_none {m : List (κ × Value)} {k : κ} : ∀ {i : Nat}, lookIx m k i = none → del m k = m := by
  induction m with
  | nil => intro i h; rfl
  | cons p m ih =>
    intro i h
    obtain ⟨k', u⟩ := p
    simp only [lookIx] at h
    by_cases hk : k = k'
    · rw [if_pos hk] at h; cases h
    · rw [if_neg hk] at h; simp [del, hk, ih h]
theorem del_some {m : List (κ × Value)} {k : κ} : ∀ {i j : Nat} {u : Value}, lookIx m k i = some (j, u) → del m k = m.eraseIdx (j - i) := by
  induction m with
  | nil => intro i j u h; simp [lookIx] at h
  | cons p m ih =>
    intro i j u h
    obtain ⟨k', u'⟩ := p
    simp only [lookIx] at h
    by_cases hk : k = k'
    · rw [if_pos hk] at h; cases h; simp [del, hk]
    · rw [if_neg hk] at h
      have := (lookIx_some h).1
      simp only [del, if_neg hk, ih h]
      rw [show j - i = (j - (i + 1)) + 1 by omega]; simp
variable {n : Nat} {T : Tm} {R H : Hp} {N : Nat} {dst : Option Tmp} {ty : TypeId} {pos : String} {after : Array Edge} {guard : Option (Nat × Bool)} {x y z i : Operand} {K : Value → Hp → Nat → Prop} {kt et : Nat} {enc : κ → Value}
/-- A map that the call made, at hand. -/
def MapAt (R : Hp) (b : Nat) (es : List (Value × Value)) : Prop := R b = some (.map es) ∨ ∃ it left cur, R b = some (.mapr es it left cur)
theorem MapAt.get {R : Hp} {w : World} {b : Nat} {es : List (Value × Value)} (h : MapAt R b es) (hh : Hold U R w) : ∃ en clock, w.heap[b]? = some (.map en clock) ∧ EntriesOk en clock ∧ en.toList.map pairOf = es := by
  rcases h with h | ⟨it, left, cur, h⟩
  · exact (hh.blk b _ h).2
  · obtain ⟨en, clock, seen, h1, h2, h3, _⟩ := (hh.blk b _ h).2; exact ⟨en, clock, h1, h2, h3⟩
theorem run_getMap {w : World} {b : Nat} {en : Array MapEntry} {clock : Nat} (h : w.heap[b]? = some (.map en clock)) : (getObj b).run P w = .ok (.map en clock) w := by
  simp [getObj, Sem.run, h]
theorem rd_lookup {t b : Nat} {m : List (κ × Value)} {k : κ} {z0 : Value} (ht : P.underlying t = some (.map kt et)) (hk : KeyTy kt enc) (hz : (P.info? et).map (·.zero) = some (some z0)) (hx : ev T x = .map (some b)) (hi : ev T i = enc k) (hm : MapAt R b (encM enc m)) :
    Rd U ⟨dst, .lookup t x i false, ty, pos, after, guard⟩ T R ((look m k).getD z0) := fun a w he hh => by
  obtain ⟨en, clock, h1, h2, h3⟩ := hm.get U hh
  have hf := hk.find m en.toList k w h3
  cases hinf : P.info? et with
  | none => rw [hinf] at hz; simp at hz
  | some inf =>
    rw [hinf] at hz; simp at hz
    simp only [execOp, he, hx, hi, Instr.lookup, Sem.run_bind, run_underlying ht, Result.andThen_ok, run_getMap h1, Sem.run_pure, hk.check, hf]
    cases hl : lookIx m k 0 with
    | none => simp [lookIx_none hl, zeroValue, typeInfo, hinf, hz]
    | some jv => obtain ⟨j, v⟩ := jv; simp [(lookIx_some hl).2.2]
theorem rd_lookup2 {t b : Nat} {m : List (κ × Value)} {k : κ} {z0 : Value} (ht : P.underlying t = some (.map kt et)) (hk : KeyTy kt enc) (hz : (P.info? et).map (·.zero) = some (some z0)) (hx : ev T x = .map (some b)) (hi : ev T i = enc k) (hm : MapAt R b (encM enc m)) :
    Rd U ⟨dst, .lookup t x i true, ty, pos, after, guard⟩ T R (.tuple #[(look m k).getD z0, .bool (look m k).isSome]) := fun a w he hh => by
  obtain ⟨en, clock, h1, h2, h3⟩ := hm.get U hh
  have hf := hk.find m en.toList k w h3
  cases hinf : P.info? et with
  | none => rw [hinf] at hz; simp at hz
  | some inf =>
    rw [hinf] at hz; simp at hz
    simp only [execOp, he, hx, hi, Instr.lookup, Sem.run_bind, run_underlying ht, Result.andThen_ok, run_getMap h1, Sem.run_pure, hk.check, hf]
    cases hl : lookIx m k 0 with
    | none => simp [lookIx_none hl, zeroValue, typeInfo, hinf, hz]
    | some jv => obtain ⟨j, v⟩ := jv; simp [(lookIx_some hl).2.2]
theorem rd_lenMap {t b : Nat} {es : List (Value × Value)} {ats : Array TypeId} (hats : ats = #[t]) (ht : P.underlying t = some (.map kt et)) (hx : ev T x = .map (some b)) (hm : MapAt R b es) :
    Rd U ⟨dst, .call ⟨.builtin .len, #[x], ats⟩, ty, pos, after, guard⟩ T R (.int .i64 es.length) := fun a w he hh => by
  subst hats
  obtain ⟨en, clock, h1, h2, h3⟩ := hm.get U hh
  have : en.size = es.length := by rw [← h3]; simp
  simp [execOp, resolve, invoke, builtin, Builtin.len_, he, hx, run_underlying ht, run_getMap h1, goInt, this]
theorem rd_neqNilMap {t u : Nat} {r : Option Nat} (ht : P.underlying t = some (.map kt et)) (hx : ev T x = .map r) (hy : ev T y = .map none) :
    Rd U ⟨dst, .binOp .neq t x y u, ty, pos, after, guard⟩ T R (.bool r.isSome) := fun a w he hh => by
  have h : (Op.equal t (.map r) (.map none)).run P w = .ok r.isNone w := by
    rw [Op.equal, show Op.maxDepth = 9999 + 1 from rfl, Op.equalIn]
    cases r <;> simp only [Sem.run_bind, run_underlying ht, Result.andThen_ok, Sem.run_pure] <;> rfl
  simp only [execOp, he, hx, hy, eqGuard, binOp, Sem.run_bind, h, Result.andThen_ok, Sem.run_pure]
  cases r <;> simp [h]
theorem op_makeMap {t : Nat} (hk : K (.map (some N)) (hset H N (.map [])) (N + 1)) : OpW U ⟨dst, .makeMap t none, ty, pos, after, guard⟩ T H N K :=
  opw_of_run U fun a w he ho => by
    refine ⟨.map (some N), w.alloc (.map #[] 0), _, N + 1, ?_, ?_, hk⟩
    · simp [execOp, Instr.makeMap, ho.size]
    · refine ho.alloc U _ ⟨#[], 0, ?_, ⟨by simp, by simp⟩, by simp⟩ rfl
      show (w.heap.push _)[N]? = _
      rw [← ho.size]; exact Array.getElem?_push_size
theorem run_setMap {w : World} {b : Nat} {en en' : Array MapEntry} {clock clock' : Nat} (h : w.heap[b]? = some (.map en clock)) : (setObj b (.map en' clock')).run P w = .ok () { w with heap := w.heap.setIfInBounds b (.map en' clock') } := by
  simp [setObj, Sem.run, h]
theorem heap_set_same {w : World} {b : Nat} {o o' : Obj} (h : w.heap[b]? = some o) : ({ w with heap := w.heap.setIfInBounds b o' } : World).heap[b]? = some o' := by
  have hlt : b < w.heap.size := (Array.getElem?_eq_some_iff.1 h).1
  simp [hlt]
theorem heap_set_other {w : World} {b k : Nat} {o' : Obj} (h : k ≠ b) : ({ w with heap := w.heap.setIfInBounds b o' } : World).heap[k]? = w.heap[k]? := by
  simp [Array.getElem?_setIfInBounds, Ne.symm h]
theorem entries_push {en : Array MapEntry} {clock : Nat} (h : EntriesOk en clock) (k v : Value) : EntriesOk (en.push { key := k, val := v, born := clock }) (clock + 1) := by
  refine ⟨fun e he => ?_, ?_⟩
  · simp only [Array.toList_push, List.mem_append, List.mem_singleton] at he
    rcases he with he | rfl
    · have := h.lt e he; omega
    · exact Nat.lt_succ_self _
  · simp only [Array.toList_push, List.map_append, List.map_cons, List.map_nil]
    rw [List.nodup_append]
    refine ⟨h.ne, by simp, ?_⟩
    intro a ha b hb
    simp at hb
    obtain ⟨e, he, rfl⟩ := List.mem_map.1 ha
    have := h.lt e he
    omega
theorem entries_modify {en : Array MapEntry} {clock : Nat} (h : EntriesOk en clock) (j : Nat) (k v : Value) : EntriesOk (en.modify j fun e => { e with key := k, val := v }) clock := by
  have hb : (en.modify j fun e => { e with key := k, val := v }).toList.map (·.born) = en.toList.map (·.born) := by
    apply List.ext_getElem?
    intro q
    simp only [List.getElem?_map, Array.getElem?_toList, Array.getElem?_modify]
    split
    · cases en[q]? <;> rfl
    · rfl
  refine ⟨fun e he => ?_, by rw [hb]; exact h.ne⟩
  have : e.born ∈ (en.modify j fun e => { e with key := k, val := v }).toList.map (·.born) := List.mem_map.2 ⟨e, he, rfl⟩
  rw [hb] at this
  obtain ⟨e', he', heq⟩ := List.mem_map.1 this
  rw [← heq]; exact h.lt e' he'
theorem entries_erase {en : Array MapEntry} {clock : Nat} (h : EntriesOk en clock) (j : Nat) : EntriesOk (en.eraseIdxIfInBounds j) clock := by
  have hsub : (en.eraseIdxIfInBounds j).toList.Sublist en.toList := by
    rw [Array.toList_eraseIdxIfInBounds]; exact List.eraseIdx_sublist _ _
  exact ⟨fun e he => h.lt e (hsub.subset he), (hsub.map _).nodup h.ne⟩
theorem op_mapUpdate {t b : Nat} {m : List (κ × Value)} {k : κ} {v : Value} (ht : P.underlying t = some (.map kt et)) (hk : KeyTy kt enc) (hx : ev T x = .map (some b)) (hi : ev T y = enc k) (hz : ev T z = v) (hm : H b = some (.map (encM enc m)))
    (hK : K undef (hset H b (.map (encM enc (put m k v)))) N) : OpW U ⟨dst, .mapUpdate t x y z, ty, pos, after, guard⟩ T H N K :=
  opw_of_skip U fun a w he ho => by
    obtain ⟨en, clock, h1, h2, h3⟩ := (ho.blk b _ hm).2
    have hf := hk.find m en.toList k w h3
    have hlen : en.size = m.length := by have := congrArg List.length h3; simpa [encM] using this
    cases hl : lookIx m k 0 with
    | none =>
      rw [hl] at hf
      refine ⟨_, _, N, ?_, ho.turn U hm (o := .map (encM enc (put m k v))) ⟨en.push { key := enc k, val := v, born := clock }, clock + 1, heap_set_same h1, entries_push h2 _ _, ?_⟩ rfl rfl rfl rfl (by simp) (fun j hj => heap_set_other hj) (Nat.le_refl _), hK⟩
      · simp only [execOp, he, hx, hi, hz, Instr.mapUpdate, Sem.run_bind, run_underlying ht, Result.andThen_ok, run_getMap h1, hk.check, hf, run_setMap h1, Sem.run_pure]
      · rw [put_none hl]; simp [encM, h3, pairOf]
    | some jv =>
      obtain ⟨j, u⟩ := jv
      rw [hl] at hf
      obtain ⟨_, hj, _⟩ := lookIx_some hl
      simp only [Nat.sub_zero] at hj
      have hjl : j < m.length := by
        rcases Nat.lt_or_ge j m.length with h | h
        · exact h
        · rw [List.getElem?_eq_none h] at hj; cases hj
      have hje : j < en.size := by omega
      have hkey : en[j].key = enc k := by
        have := congrArg (fun l => l[j]?) h3
        simp only [List.getElem?_map, Array.getElem?_toList, encM, hj, Option.map_some, Array.getElem?_eq_getElem hje] at this
        exact congrArg Prod.fst (Option.some.inj this)
      have hstay : (Instr.keyThatStays (((en[j]?).map (·.key)).getD (enc k)) (enc k)).run P w = .ok (enc k) w := by
        simp [Instr.keyThatStays, Array.getElem?_eq_getElem hje, hkey, hk.same]
      refine ⟨_, _, N, ?_, ho.turn U hm (o := .map (encM enc (put m k v))) ⟨en.modify j fun e => { e with key := enc k, val := v }, clock, heap_set_same h1, entries_modify h2 _ _ _, ?_⟩ rfl rfl rfl rfl (by simp) (fun j hj => heap_set_other hj) (Nat.le_refl _), hK⟩
      · simp only [execOp, he, hx, hi, hz, Instr.mapUpdate, Sem.run_bind, run_underlying ht, Result.andThen_ok, run_getMap h1, hk.check, hf, hstay, run_setMap h1, Sem.run_pure]
      · rw [put_some hl, Nat.sub_zero]
        apply List.ext_getElem?
        intro q
        have hq := congrArg (fun l => l[q]?) h3
        simp only [List.getElem?_map, Array.getElem?_toList, encM] at hq
        simp only [List.getElem?_map, Array.getElem?_toList, encM, Array.getElem?_modify, List.getElem?_set]
        by_cases hqj : j = q
        · subst hqj; simp [hje, hjl, pairOf]
        · rw [if_neg hqj, if_neg hqj]; exact hq
theorem map_eraseIdx' {α β : Type} (f : α → β) : ∀ (l : List α) (j : Nat), (l.eraseIdx j).map f = (l.map f).eraseIdx j
  | [], _ => by simp
  | a :: l, 0 => by simp
  | a :: l, j + 1 => by simp [map_eraseIdx' f l j]
theorem op_delete {t b : Nat} {m : List (κ × Value)} {k : κ} {ats : Array TypeId} (hats : ats[0]? = some t) (ht : P.underlying t = some (.map kt et)) (hk : KeyTy kt enc) (hx : ev T x = .map (some b)) (hi : ev T y = enc k) (hm : H b = some (.map (encM enc m)))
    (hK : K (.tuple #[]) (hset H b (.map (encM enc (del m k)))) N) : OpW U ⟨dst, .call ⟨.builtin .delete, #[x, y], ats⟩, ty, pos, after, guard⟩ T H N K :=
  opw_of_run U fun a w he ho => by
    obtain ⟨en, clock, h1, h2, h3⟩ := (ho.blk b _ hm).2
    have hf := hk.find m en.toList k w h3
    have hlen : en.size = m.length := by have := congrArg List.length h3; simpa [encM] using this
    cases hl : lookIx m k 0 with
    | none =>
      rw [hl] at hf
      refine ⟨.tuple #[], _, _, N, ?_, ho.turn U hm (o := .map (encM enc (del m k))) ⟨en, clock, heap_set_same h1, h2, ?_⟩ rfl rfl rfl rfl (by simp) (fun j hj => heap_set_other hj) (Nat.le_refl _), hK⟩
      · simp [execOp, resolve, invoke, builtin, Builtin.delete_, he, hx, hi, hats, run_underlying ht, run_getMap h1, hk.check, hf, run_setMap h1]
      · rw [del_none hl]; exact h3
    | some jv =>
      obtain ⟨j, u⟩ := jv
      rw [hl] at hf
      refine ⟨.tuple #[], _, _, N, ?_, ho.turn U hm (o := .map (encM enc (del m k))) ⟨en.eraseIdxIfInBounds j, clock, heap_set_same h1, entries_erase h2 _, ?_⟩ rfl rfl rfl rfl (by simp) (fun j hj => heap_set_other hj) (Nat.le_refl _), hK⟩
      · simp [execOp, resolve, invoke, builtin, Builtin.delete_, he, hx, hi, hats, run_underlying ht, run_getMap h1, hk.check, hf, run_setMap h1]
      · rw [del_some hl, Nat.sub_zero, Array.toList_eraseIdxIfInBounds, map_eraseIdx', h3]
        simp [encM, map_eraseIdx']
/-! ### Ranges over a map -/
theorem op_range {t b : Nat} {es : List (Value × Value)} (ht : P.underlying t = some (.map kt et)) (hx : ev T x = .map (some b)) (hm : H b = some (.map es))
    (hK : K (.pointer (some ⟨N, 0, none⟩)) (hset H b (.mapr es N es none)) (N + 1)) : OpW U ⟨dst, .range t x, ty, pos, after, guard⟩ T H N K :=
  opw_of_run U fun a w he ho => by
    obtain ⟨en, clock, h1, h2, h3⟩ := (ho.blk b _ hm).2
    have hbN := ho.lt b _ hm
    have hsz : (w.alloc (.mapIter (some b) clock #[] clock)).heap.size = N + 1 := by show (w.heap.push _).size = _; simp [ho.size]
    have hold : ∀ k, k < N → (w.alloc (.mapIter (some b) clock #[] clock)).heap[k]? = w.heap[k]? := fun k hk => Below.heap_alloc w _ k (by rw [ho.size]; exact hk)
    have hnew : (w.alloc (.mapIter (some b) clock #[] clock)).heap[N]? = some (.mapIter (some b) clock #[] clock) := by
      show (w.heap.push _)[N]? = _
      rw [← ho.size]; exact Array.getElem?_push_size
    have hit : ∀ b es it left cur, H b = some (.mapr es it left cur) → it < N := fun b es it left cur e => by
      have := mapr_lt (ho.blk b _ e).2
      rw [ho.size] at this; exact this
    have hnone : ∀ k, N ≤ k → H k = none := fun k hk => by
      cases hH : H k with
      | none => rfl
      | some o => have := ho.lt k o hH; omega
    refine ⟨.pointer (some ⟨N, 0, none⟩), w.alloc (.mapIter (some b) clock #[] clock), _, N + 1, ?_, ?_, hK⟩
    · simp only [execOp, he, hx, Instr.range, Sem.run_bind, run_underlying ht, Result.andThen_ok, run_getMap h1, Sem.run_pure]
      simp [ho.size]
    · refine ⟨ho.below.alloc (by rw [ho.size]; exact ho.hBN) _, ?_, hsz, ?_, by have := ho.hBN; omega, ?_, ho.dr⟩
      · intro b' o e
        unfold hset at e
        by_cases hb : b' = b
        · rw [if_pos hb] at e; cases e; subst hb
          refine ⟨(ho.blk b' _ hm).1, en, clock, #[], by rw [hold b' hbN]; exact h1, h2, h3, by omega, by rw [hsz]; omega, hnew, by rw [List.filter_eq_self.2 (fun e _ => by simp)]; exact h3, by simp⟩
        · rw [if_neg hb] at e
          have hlt := ho.lt b' o e
          exact ⟨(ho.blk b' o e).1, Blk.holds_mono (ho.blk b' o e).2 (hold b' hlt) (fun es it left cur eo => hold it (hit b' es it left cur (eo ▸ e))) (by rw [hsz, ho.size]; omega)⟩
      · intro b' o e
        unfold hset at e
        by_cases hb : b' = b
        · omega
        · rw [if_neg hb] at e; have := ho.lt b' o e; omega
      · intro b' es' it left cur e
        unfold hset at e ⊢
        by_cases hb : b' = b
        · rw [if_pos hb] at e; cases e
          refine ⟨ho.hBN, by rw [if_neg (by omega)]; exact hnone N (Nat.le_refl _), ?_⟩
          intro b2 es2 it2 left2 cur2 e2 hi2
          by_cases hb2 : b2 = b
          · rw [hb2, hb]
          · rw [if_neg hb2] at e2; have := hit b2 es2 it2 left2 cur2 e2; omega
        · rw [if_neg hb] at e
          obtain ⟨q1, q2, q3⟩ := ho.apart b' es' it left cur e
          refine ⟨q1, by rw [if_neg (fun heq => by rw [heq, hm] at q2; cases q2)]; exact q2, ?_⟩
          intro b2 es2 it2 left2 cur2 e2 hi2
          by_cases hb2 : b2 = b
          · rw [if_pos hb2] at e2; cases e2; have := hit b' es' it left cur e; omega
          · rw [if_neg hb2] at e2; exact q3 b2 es2 it2 left2 cur2 e2 hi2
/-- Only the iterator has gone on. -/
theorem Own.iter {w w' : World} (ho : Own U H N w) {b it : Nat} {es left left' : List (Value × Value)} {cur cur' : Option (Value × Value)} (hm : H b = some (.mapr es it left cur)) (hh : (Blk.mapr es it left' cur').holds w' b)
    (h1 : w'.os = w.os) (h2 : w'.tape = w.tape) (h3 : w'.output = w.output) (h4 : w'.heap.size = w.heap.size) (h5 : ∀ k, k ≠ it → w'.heap[k]? = w.heap[k]?) (h6 : w.drawn ≤ w'.drawn) : Own U (hset H b (.mapr es it left' cur')) N w' := by
  obtain ⟨q1, q2, q3⟩ := ho.apart b es it left cur hm
  refine ⟨ho.below.trans ⟨h1, h2, h3, by omega, fun k hk => h5 k (by omega)⟩, ?_, by rw [h4, ho.size], ?_, ho.hBN, ?_, Nat.le_trans ho.dr h6⟩
  · intro b' o e
    unfold hset at e
    by_cases hb : b' = b
    · rw [if_pos hb] at e; cases e; subst hb; exact ⟨(ho.blk b' _ hm).1, hh⟩
    · rw [if_neg hb] at e
      refine ⟨(ho.blk b' o e).1, Blk.holds_mono (ho.blk b' o e).2 (h5 b' (fun heq => by rw [heq, q2] at e; cases e)) (fun es2 it2 left2 cur2 eo => h5 it2 ?_) (by omega)⟩
      intro heq
      subst eo
      exact hb (q3 b' es2 it2 left2 cur2 e heq)
  · intro b' o e
    unfold hset at e
    by_cases hb : b' = b
    · subst hb; exact ho.lt b' _ hm
    · rw [if_neg hb] at e; exact ho.lt b' o e
  · intro b' es' it' left2 cur2 e
    unfold hset at e ⊢
    by_cases hb : b' = b
    · rw [if_pos hb] at e; cases e
      refine ⟨q1, ?_, ?_⟩
      · by_cases hib : it = b
        · rw [hib, hm] at q2; cases q2
        · rw [if_neg hib]; exact q2
      · intro b2 es2 it2 left3 cur3 e2 hi2
        by_cases hb2 : b2 = b
        · rw [hb2, hb]
        · rw [if_neg hb2] at e2; rw [hb]; exact q3 b2 es2 it2 left3 cur3 e2 hi2
    · rw [if_neg hb] at e
      obtain ⟨r1, r2, r3⟩ := ho.apart b' es' it' left2 cur2 e
      refine ⟨r1, by rw [if_neg (fun heq => by rw [heq, hm] at r2; cases r2)]; exact r2, ?_⟩
      intro b2 es2 it2 left3 cur3 e2 hi2
      by_cases hb2 : b2 = b
      · rw [if_pos hb2] at e2; cases e2
        rw [hb2]; exact r3 b es it left cur hm hi2
      · rw [if_neg hb2] at e2; exact r3 b2 es2 it2 left3 cur3 e2 hi2
theorem filter_erase {l : List MapEntry} (hn : (l.map (·.born)).Nodup) {q : Nat} {e : MapEntry} (hq : l[q]? = some e) : l.filter (fun x => !(x.born == e.born)) = l.eraseIdx q := by
  induction l generalizing q with
  | nil => simp at hq
  | cons a l ih =>
    simp only [List.map_cons, List.nodup_cons] at hn
    cases q with
    | zero =>
      simp at hq; subst hq
      simp only [List.eraseIdx_cons_zero, List.filter_cons, beq_self_eq_true, Bool.not_true, Bool.false_eq_true, if_false]
      rw [List.filter_eq_self]
      intro x hx
      have : x.born ≠ a.born := fun h => hn.1 (h ▸ List.mem_map.2 ⟨x, hx, rfl⟩)
      simp [this]
    | succ q =>
      simp at hq
      have hne : a.born ≠ e.born := fun h => hn.1 (h ▸ List.mem_map.2 ⟨e, List.mem_of_getElem? hq, rfl⟩)
      have hb : (a.born == e.born) = false := by simp [hne]
      simp only [List.eraseIdx_cons_succ, List.filter_cons, hb, Bool.not_false, if_true, ih hn.2 hq]
theorem op_next {b it : Nat} {es left : List (Value × Value)} {cur : Option (Value × Value)} (hm : H b = some (.mapr es it left cur)) (hx : ev T x = .pointer (some ⟨it, 0, none⟩))
    (hdone : left = [] → K (.tuple #[.bool false]) H N)
    (hmore : ∀ q p, left[q]? = some p → K (.tuple #[.bool true, p.1, p.2]) (hset H b (.mapr es it (left.eraseIdx q) (some p))) N) : OpW U ⟨dst, .next x false, ty, pos, after, guard⟩ T H N K :=
  opw_of_run U fun a w he ho => by
    obtain ⟨en, clock, seen, h1, h2, h3, h4, h5, h6, h7, h8⟩ := (ho.blk b _ hm).2
    have hgi : (getObj it).run P w = .ok (.mapIter (some b) clock seen clock) w := by simp [getObj, Sem.run, h6]
    have hlt : it < w.heap.size := h5
    -- what is left
    obtain ⟨L, hL⟩ : ∃ L, en.toList.filter (fun e => !seen.contains e.born) = L := ⟨_, rfl⟩
    have hLa : en.filter (fun e => !seen.contains e.born) = L.toArray := by rw [← hL, ← Array.toList_filter]
    have hLmem : ∀ e ∈ L, e ∈ en.toList := fun e he => by rw [← hL] at he; exact (List.mem_filter.1 he).1
    have hold : (L.toArray.filter (·.born < clock)) = L.toArray := by
      rw [Array.filter_eq_self]
      intro e he'
      simp at he' ⊢
      exact h2.lt e (hLmem e he')
    have hnew : (L.toArray.filter (·.born ≥ clock)) = #[] := by
      rw [Array.filter_eq_empty_iff]
      intro e he'
      simp at he' ⊢
      exact h2.lt e (hLmem e he')
    have hleft : L.map pairOf = left := by rw [← hL]; exact h7
    have hcheck : (!seen.isEmpty && !en.isEmpty && en.all (·.born ≥ clock)) = false := by
      cases hen : en.toList with
      | nil =>
        have : en.isEmpty = true := by
          have : en = #[] := Array.toList_inj.1 (by simpa using hen)
          subst this; rfl
        simp [this]
      | cons e l =>
        have hb : en.all (·.born ≥ clock) = false := by
          refine Bool.eq_false_iff.2 fun hall => ?_
          have h := Array.all_eq_true_iff_forall_mem.1 hall e (Array.mem_toList_iff.1 (by rw [hen]; simp))
          have := h2.lt e (by rw [hen]; simp)
          simp at h
          omega
        simp [hb]
    have hrun : (Instr.next (.pointer (some ⟨it, 0, none⟩)) false ty).run P w =
        (((choose (.mapNext ((if L.toArray.isEmpty then #[none] else #[]) ++ (L.toArray ++ #[]).map some).size)).run P w).andThen fun k w' =>
          (match ((if L.toArray.isEmpty then #[none] else #[]) ++ (L.toArray ++ #[]).map some : Array (Option MapEntry))[k]? with
          | some (some e) => (do setObj it (.mapIter (some b) clock (seen.push e.born) clock); pure (.tuple #[.bool true, e.key, e.val]) : Sem Value)
          | some none => pure (.tuple #[.bool false])
          | none => stuck "Next: no such candidate").run P w') := by
      simp only [Instr.next, Sem.run_bind, hgi, Result.andThen_ok, run_getMap h1, hcheck, Bool.false_eq_true, if_false, hLa, hold, hnew, Sem.run_pure, Sem.run_ite]
      rfl
    cases hLc : L with
    | nil =>
      have hl : left = [] := by rw [← hleft, hLc]; rfl
      refine ⟨_, w, H, N, ?_, ho, hdone hl⟩
      simp only [execOp, he, hx, Sem.run_bind, hrun, hLc]
      simp [choose, Sem.run, Question.forced]
    | cons e0 L0 =>
      have hne : L.toArray.isEmpty = false := by simp [hLc]
      have hcand : ((if L.toArray.isEmpty then #[none] else #[]) ++ (L.toArray ++ #[]).map some : Array (Option MapEntry)) = (L.map some).toArray := by rw [hne]; simp
      rw [hcand] at hrun
      have hch : ∃ q w1, (choose (.mapNext ((L.map some).toArray).size)).run P w = .ok q w1 ∧ q < L.length ∧ (∃ d, w.drawn ≤ d ∧ w1 = { w with drawn := d }) := by
        simp only [choose, Sem.run]
        split
        · exact ⟨0, w, rfl, by rw [hLc]; simp, w.drawn, Nat.le_refl _, rfl⟩
        · rename_i hf
          refine ⟨_, _, rfl, ?_, _, Nat.le_succ _, rfl⟩
          simp only [Question.cut, List.size_toArray, List.length_map]
          exact Nat.mod_lt _ (by rw [hLc]; simp)
      obtain ⟨q, w1, hq1, hq2, d, hd, rfl⟩ := hch
      obtain ⟨e, hqe⟩ : ∃ e, L[q]? = some e := ⟨L[q], List.getElem?_eq_getElem hq2⟩
      have hp : left[q]? = some (pairOf e) := by rw [← hleft, List.getElem?_map, hqe]; rfl
      have hset' : (setObj it (.mapIter (some b) clock (seen.push e.born) clock)).run P { w with drawn := d } = .ok () { w with drawn := d, heap := w.heap.setIfInBounds it (.mapIter (some b) clock (seen.push e.born) clock) } := by
        simp [setObj, Sem.run, h6]
      refine ⟨.tuple #[.bool true, e.key, e.val], { w with drawn := d, heap := w.heap.setIfInBounds it (.mapIter (some b) clock (seen.push e.born) clock) }, hset H b (.mapr es it (left.eraseIdx q) (some (pairOf e))), N, ?_, ?_, hmore q (pairOf e) hp⟩
      · simp only [execOp, he, hx, Sem.run_bind, hrun, hq1, Result.andThen_ok]
        simp [hqe, hset']
      · refine ho.iter U hm ?_ rfl rfl rfl (by simp) (fun k hk => by simp [Array.getElem?_setIfInBounds, Ne.symm hk]) hd
        refine ⟨en, clock, seen.push e.born, ?_, h2, h3, h4, by simpa using hlt, ?_, ?_, ?_⟩
        · simp [Array.getElem?_setIfInBounds, Ne.symm h4]; exact h1
        · simp [hlt]
        · have hnd : (L.map (·.born)).Nodup := by rw [← hL]; exact (List.filter_sublist.map _).nodup h2.ne
          have hfe := filter_erase hnd hqe
          have : en.toList.filter (fun x => !(seen.push e.born).contains x.born) = L.filter (fun x => !(x.born == e.born)) := by
            rw [← hL, List.filter_filter]
            congr 1
            funext x
            simp [Array.contains_push, Bool.and_comm]
            rfl
          rw [this, hfe, map_eraseIdx', hleft]
        · rintro p hpe
          cases hpe
          exact ⟨e, hLmem e (List.mem_of_getElem? hqe), by simp, rfl⟩
theorem rd_entry {b it : Nat} {es left : List (Value × Value)} {p : Value × Value} (hm : R b = some (.mapr es it left (some p))) (hx : ev T x = .pointer (some ⟨it, 0, none⟩)) :
    Rd U ⟨dst, .entry x, ty, pos, after, guard⟩ T R (.tuple #[p.1, p.2]) := fun a w he hh => by
  obtain ⟨en, clock, seen, h1, h2, h3, h4, h5, h6, h7, h8⟩ := (hh.blk b _ hm).2
  obtain ⟨e, hem, hb, hp⟩ := h8 p rfl
  have hgi : (getObj it).run P w = .ok (.mapIter (some b) clock seen clock) w := by simp [getObj, Sem.run, h6]
  have hfind : en.find? (·.born == e.born) = some e := by
    rw [← Array.find?_toList]
    have hn := h2.ne
    clear h1 h3 h7 h2 h6 h8
    generalize en.toList = l at hem hn
    induction l with
    | nil => cases hem
    | cons a l ih =>
      simp only [List.map_cons, List.nodup_cons] at hn
      rw [List.find?_cons]
      rcases List.mem_cons.1 hem with rfl | hem
      · simp
      · have hne : a.born ≠ e.born := fun h => hn.1 (h ▸ List.mem_map.2 ⟨e, hem, rfl⟩)
        have : (a.born == e.born) = false := by simp [hne]
        rw [this]; exact ih hem hn.2
  subst hp
  simp [execOp, he, hx, Instr.entry, hgi, hb, run_getMap h1, hfind, pairOf]
/-- Behind a range the map is a map again. -/
theorem Own.unrange {w : World} (ho : Own U H N w) {b it : Nat} {es left : List (Value × Value)} {cur : Option (Value × Value)} (hm : H b = some (.mapr es it left cur)) : Own U (hset H b (.map es)) N w := by
  obtain ⟨en, clock, seen, h1, h2, h3, h4, h5, h6, h7, h8⟩ := (ho.blk b _ hm).2
  exact ho.turn U hm (o := .map es) ⟨en, clock, h1, h2, h3⟩ rfl rfl rfl rfl rfl (fun _ _ => rfl) (Nat.le_refl _)
end
/-- What is known may be forgotten, or told otherwise. -/
theorem WC.weaken {n : Nat} {c : Code} {T : Tm} {H H' : Hp} {N : Nat} {Q : Post} (h : ∀ w, Own U H N w → Own U H' N w) (hc : WC U n c T H' N Q) : WC U n c T H N Q :=
  fun a w hs => hc a w ⟨hs.size, hs.tm, hs.defers, h w hs.own⟩
end Go.Proofs.YtdmodppoellbkaaGreat
namespace Go.Proofs.YtdmodppoellbkaaGreat
open Go Go.RowKit
theorem Rd.to {U : Cx} {T : Tm} {R : Hp} {o : Oper} {v v' : Value} (h : Rd U o T R v) (e : v = v') : Rd U o T R v' := e ▸ h
variable (U : Cx)
variable {n : Nat} {T : Tm} {R H : Hp} {N : Nat} {dst : Option Tmp} {ty : TypeId} {pos : String} {after : Array Edge} {guard : Option (Nat × Bool)} {x y z i : Operand} {K : Value → Hp → Nat → Prop}
theorem rd_idx {t e sz bytes b off len cap : Nat} {z0 : Value} {k : IntKind} {j : Int} (hs : SlT t e sz bytes z0) (hx : ev T x = .slice (some ⟨b, off, none⟩) len cap) (hi : ev T i = .int k j) (h0 : 0 ≤ j) (h1 : j < len) :
    Rd U ⟨dst, .indexAddr t x i, ty, pos, after, guard⟩ T R (.pointer (some ⟨b, off + j.toNat * sz, none⟩)) :=
  rd_indexAddr U hs.u (by have := hs.i; cases hinf : P.info? e with | none => rw [hinf] at this; simp at this | some inf => rw [hinf] at this; simp at this; simp [this.1]) hx hi h0 h1
theorem rd_idxN {t e sz bytes b off len cap : Nat} {z0 : Value} {k : IntKind} {j : Nat} (hs : SlT t e sz bytes z0) (hx : ev T x = .slice (some ⟨b, off, none⟩) len cap) (hi : ev T i = .int k (j : Int)) (h1 : j < len) :
    Rd U ⟨dst, .indexAddr t x i, ty, pos, after, guard⟩ T R (.pointer (some ⟨b, off + j * sz, none⟩)) := rd_idx U hs hx hi (by omega) (by omega)
theorem rd_idx1 {t e bytes b off len cap : Nat} {z0 : Value} {k : IntKind} {j : Nat} (hs : SlT t e 1 bytes z0) (hx : ev T x = .slice (some ⟨b, off, none⟩) len cap) (hi : ev T i = .int k (j : Int)) (h1 : j < len) :
    Rd U ⟨dst, .indexAddr t x i, ty, pos, after, guard⟩ T R (.pointer (some ⟨b, off + j, none⟩)) := (rd_idxN U hs hx hi h1).to (by rw [Nat.mul_one])
theorem rd_idxI {t e sz bytes b off len cap : Nat} {z0 : Value} {k : IntKind} {q : Int} (j : Nat) (hs : SlT t e sz bytes z0) (hx : ev T x = .slice (some ⟨b, off, none⟩) len cap) (hi : ev T i = .int k q) (hq : q = (j : Int)) (h1 : j < len) :
    Rd U ⟨dst, .indexAddr t x i, ty, pos, after, guard⟩ T R (.pointer (some ⟨b, off + j * sz, none⟩)) := rd_idxN U hs hx (hi.trans (by rw [hq])) h1
theorem rd_idxI1 {t e bytes b off len cap : Nat} {z0 : Value} {k : IntKind} {q : Int} (j : Nat) (hs : SlT t e 1 bytes z0) (hx : ev T x = .slice (some ⟨b, off, none⟩) len cap) (hi : ev T i = .int k q) (hq : q = (j : Int)) (h1 : j < len) :
    Rd U ⟨dst, .indexAddr t x i, ty, pos, after, guard⟩ T R (.pointer (some ⟨b, off + j, none⟩)) := rd_idx1 U hs hx (hi.trans (by rw [hq])) h1
theorem rd_len' {t e sz bytes len cap : Nat} {z0 : Value} {p : Option Addr} (hs : SlT t e sz bytes z0) (hx : ev T x = .slice p len cap) :
    Rd U ⟨dst, .call ⟨.builtin .len, #[x], #[t]⟩, ty, pos, after, guard⟩ T R (.int .i64 len) := rd_len U rfl hs.u hx
theorem rd_sliceFrom {t e sz bytes b off len cap : Nat} {z0 : Value} {k : IntKind} {l : Nat} (hs : SlT t e sz bytes z0) (hx : ev T x = .slice (some ⟨b, off, none⟩) len cap) (hi : ev T y = .int k l) (h : l ≤ len) :
    Rd U ⟨dst, .slice t x (some y) none none, ty, pos, after, guard⟩ T R (.slice (some ⟨b, if cap = l then off else off + l * sz, none⟩) (len - l) (cap - l)) := fun a w he hh => by
  obtain ⟨inf, hi', hsz, hby, hz⟩ := hs.info
  have hl : (l : Int) ≤ len := by omega
  simp only [execOp, he, hx, Option.map_some, Option.map_none, hi, Instr.sliceAt, Sem.run_bind, run_underlying hs.u, Result.andThen_ok, Instr.slice, Instr.sliceBounds, Sem.run_pure, Instr.sliceBound, asIntOf, run_sizeOf' hi', hsz]
  rw [if_pos ⟨by omega, hl⟩]
  by_cases hc : cap = l <;> simp [hc, add_none]
theorem rd_eqDart {t u : Nat} {p q : Int × Int} (ht : t = 56) (hx : ev T x = encD p) (hy : ev T y = encD q) : Rd U ⟨dst, .binOp .eql t x y u, ty, pos, after, guard⟩ T R (.bool (decide (p = q))) := fun a w he hh => by
  subst ht
  have hg : P.eqGuardType P.depth 56 = false := by unfold P; kernel_rfl
  have hgd : (eqGuard .eql 56 x y (encD p) (encD q)).run P w = .ok () w := run_eqGuard_agg (P := P) w .eql 56 x y _ _ hg
  have hb : (binOp .eql 56 (encD p) (encD q)).run P w = .ok (.bool (decide (p = q))) w := by
    have := run_eql_struct (P := P) w 56 #[.int .i64 p.1, .int .i64 p.2] #[.int .i64 q.1, .int .i64 q.2]
    have he := eq_dart p q w
    simp only [Op.equal, Op.maxDepth] at he
    unfold encD at *
    rw [this, he]; rfl
  simp only [execOp, he, hx, hy, Sem.run_bind, hgd, hb, Result.andThen_ok, Sem.run_pure]
theorem rd_eqlNil {t e u len cap : Nat} {p : Option Addr} (ht : P.underlying t = some (.slice e)) (hx : ev T x = .slice p len cap) (hy : ev T y = .slice none 0 0) :
    Rd U ⟨dst, .binOp .eql t x y u, ty, pos, after, guard⟩ T R (.bool p.isNone) := fun a w he hh => by
  have h : (Op.equal t (.slice p len cap) (.slice none 0 0)).run P w = .ok p.isNone w := by
    rw [Op.equal, show Op.maxDepth = 9999 + 1 from rfl, Op.equalIn]
    cases p <;> simp only [Sem.run_bind, run_underlying ht, Result.andThen_ok, Sem.run_pure] <;> rfl
  simp only [execOp, he, hx, hy, eqGuard, binOp, Sem.run_bind, Result.andThen_ok, Sem.run_pure]
  cases p <;> simp [h]
theorem rd_append0 {t e sz bytes len cap len2 cap2 : Nat} {z0 : Value} {p p2 : Option Addr} (hs : SlT t e sz bytes z0) (hx : ev T x = .slice p len cap) (hc : len ≤ cap) (hy : ev T y = .slice p2 0 cap2) :
    Rd U ⟨dst, .call ⟨.builtin .append, #[x, y], #[t, t]⟩, ty, pos, after, guard⟩ T R (.slice p len cap) := fun a w he hh => by
  obtain ⟨inf, hi', hsz, hby, hz⟩ := hs.info
  have hf : (Builtin.firstCells sz 0 (.slice p2 0 cap2)).run P w = .ok #[] w := by cases p2 <;> simp [Builtin.firstCells, loadCells, loadCellsFrom]
  have : (Builtin.append_ #[t, t] ty #[.slice p len cap, .slice p2 0 cap2]).run P w = .ok (.slice p len cap) w := by
    cases p <;> simp [Builtin.append_, run_underlying hs.u, run_sizeOf' hi', hsz, Builtin.lenOf, hc, hf, storeCells]
  simp [execOp, resolve, invoke, builtin, he, hx, hy, this]
theorem foldl_set : ∀ (l : List Value) (k off : Nat) (cs : Array Value), off + k + l.length ≤ cs.size → (l.zipIdx k).foldl (fun cs (p : Value × Nat) => cs.setIfInBounds (off + p.2) p.1) cs = (splice cs.toList (off + k) l).toArray
  | [], k, off, cs, _ => by simp [splice]
  | v :: l, k, off, cs, h => by
    simp only [List.length_cons] at h
    rw [List.zipIdx_cons, List.foldl_cons, foldl_set l (k + 1) off (cs.setIfInBounds (off + k) v) (by simp; omega)]
    apply Array.ext'
    simp only [Array.toList_setIfInBounds]
    have hl : off + (k + 1) + l.length ≤ (cs.toList.set (off + k) v).length := by simp; omega
    have hl' : off + k + (v :: l).length ≤ cs.toList.length := by simp; omega
    apply List.ext_getElem?
    intro j
    rw [splice_get hl, splice_get hl', List.getElem?_set]
    simp only [List.length_cons, Array.length_toList]
    by_cases h1 : j < off + k
    · rw [if_pos (by omega), if_neg (by omega), if_pos h1]
    · by_cases h2 : j = off + k
      · subst h2
        rw [if_pos (by omega), if_pos rfl, if_pos (by omega), if_neg h1, if_pos (by omega), Nat.sub_self]; rfl
      · by_cases h3 : j < off + k + (l.length + 1)
        · rw [if_neg (by omega), if_pos (by omega), if_neg h1, if_pos h3, show j - (off + k) = (j - (off + (k + 1))) + 1 by omega, List.getElem?_cons_succ]
        · rw [if_neg (by omega), if_neg (by omega), if_neg (by omega), if_neg h1, if_neg h3]
theorem fill_full (sz : Nat) : ∀ (vs : List Value) (i0 : Nat) (cs : Array Value), (∀ v ∈ vs, v.cells.size = sz) → (i0 + vs.length) * sz = cs.size →
    Instr.fill (fun i => some (i * sz, sz)) cs ((vs.zipIdx i0).map fun p => (p.2, p.1)) = some (cs.toList.take (i0 * sz) ++ vs.flatMap fun v => v.cells.toList).toArray
  | [], i0, cs, _, h => by
    simp only [List.length_nil, Nat.add_zero] at h
    simp only [List.zipIdx_nil, List.map_nil, Instr.fill, List.flatMap_nil, List.append_nil]
    rw [List.take_of_length_le (by simp [h])]
  | v :: vs, i0, cs, hv, h => by
    have hsz : v.cells.size = sz := hv v (by simp)
    have hfit : i0 * sz + v.cells.size ≤ cs.size := by
      rw [← h, hsz, Nat.add_mul]
      have : sz ≤ (v :: vs).length * sz := Nat.le_mul_of_pos_left _ (by simp)
      omega
    simp only [List.zipIdx_cons, List.map_cons, Instr.fill]
    rw [if_neg (by simp [hsz]; omega)]
    have hf : (v.cells.zipIdx.foldl (fun cs (p : Value × Nat) => cs.setIfInBounds (i0 * sz + p.2) p.1) cs) = (splice cs.toList (i0 * sz) v.cells.toList).toArray := by
      rw [← Array.foldl_toList, Array.toList_zipIdx, foldl_set _ 0 _ cs (by simpa using hfit), Nat.add_zero]
    have hlen : (splice cs.toList (i0 * sz) v.cells.toList).length = cs.size := by rw [length_splice (by simpa using hfit)]; simp
    rw [show (v.cells.zipIdx.foldl (fun cs x => match x with | (c, j) => cs.setIfInBounds (i0 * sz + j) c) cs) = (splice cs.toList (i0 * sz) v.cells.toList).toArray from hf]
    rw [fill_full sz vs (i0 + 1) _ (fun u hu => hv u (by simp [hu])) (by rw [List.size_toArray, hlen, ← h, List.length_cons]; congr 1; omega)]
    congr 1
    apply Array.ext'
    simp only [List.flatMap_cons]
    rw [← List.append_assoc]
    congr 1
    have hl : (List.take (i0 * sz) cs.toList).length = i0 * sz := by simp; omega
    have e2 : v.cells.toList.length = sz := by simpa using hsz
    have hfit' : i0 * sz + v.cells.toList.length ≤ cs.toList.length := by simpa using hfit
    apply List.ext_getElem?
    intro j
    rw [List.getElem?_take, splice_get hfit', List.getElem?_append, hl, e2, Nat.succ_mul, List.getElem?_take]
    by_cases h1 : j < i0 * sz
    · rw [if_pos (by omega), if_pos h1, if_pos h1, if_pos h1]
    · by_cases h2 : j < i0 * sz + sz
      · rw [if_pos h2, if_neg h1, if_pos h2, if_neg h1]
      · rw [if_neg h2, if_neg h1, List.getElem?_eq_none (by omega)]
theorem op_bs {t e sz bytes len : Nat} {z0 : Value} {ps : Array (Nat × Operand)} {cs : List Value} (hs : SlT t e sz bytes z0) (hz0 : z0.cells.size = sz) (hl0 : 0 < len * sz) (hl1 : len * sz ≤ 16777216) (vs : List Value)
    (hp : (ps.toList.map fun p => (p.1, ev T p.2)) = vs.zipIdx.map fun p => (p.2, p.1)) (hv : ∀ v ∈ vs, v.cells.size = sz) (hlen : vs.length = len) (hcs : (vs.flatMap fun v => v.cells.toList) = cs)
    (hk : K (.slice (some ⟨N, 0, none⟩) len len) (hset H N (.row e 0 cs (len * sz))) (N + 1)) : OpW U ⟨dst, .buildSlice t len ps, ty, pos, after, guard⟩ T H N K := by
  have hff := fill_full sz vs 0 ((Array.range (len * sz)).map (z0.cells[· % z0.cells.size]!)) hv (by simp [hlen])
  simp only [Nat.zero_mul, List.take_zero, List.nil_append] at hff
  have hsize : cs.length = len * sz := by
    rw [← hcs, ← hlen]
    clear hp hlen hcs hff hk hl0 hl1
    induction vs with
    | nil => simp
    | cons v vs ih => simp only [List.flatMap_cons, List.length_append, List.length_cons, Nat.succ_mul, ih (fun u hu => hv u (by simp [hu]))]; have := hv v (by simp); simp [this]; omega
  refine op_buildSlice U hs hl0 hl1 (cells := cs.toArray) (by rw [hp, ← hcs]; exact hff) ?_
  rw [List.size_toArray, hsize]; exact hk
theorem op_buildSlice0 {t e sz bytes : Nat} {v : Value} (hs : SlT t e sz bytes v) (hk : K (.slice (some ⟨N, 0, none⟩) 0 0) (hset H N (.row e 0 [] 0)) (N + 1)) : OpW U ⟨dst, .buildSlice t 0 #[], ty, pos, after, guard⟩ T H N K :=
  opw_of_run U fun a w he ho => by
    obtain ⟨inf, hi, hsz, hby, hz⟩ := hs.info
    refine ⟨.slice (some ⟨N, 0, none⟩) 0 0, w.alloc (.cells #[] e), _, N + 1, ?_, ?_, hk⟩
    · simp [execOp, Instr.buildSlice, run_underlying hs.u, run_sizeOf' hi, Instr.fill, newRow, ho.size, Array.range_zero']
    · have := row_new w e #[]
      rw [ho.size] at this
      exact ho.alloc U _ this rfl
theorem rd_min {p q : Int} {ats : Array TypeId} (hx : ev T x = .int .i64 p) (hy : ev T y = .int .i64 q) : Rd U ⟨dst, .call ⟨.builtin .min, #[x, y], ats⟩, ty, pos, after, guard⟩ T R (.int .i64 (min p q)) := fun a w he hh => by
  simp [execOp, resolve, invoke, builtin, he, hx, hy, Builtin.min_, Builtin.min2]
  rw [Int.min_def]; split <;> split <;> omega
theorem rd_max {p q : Int} {ats : Array TypeId} (hx : ev T x = .int .i64 p) (hy : ev T y = .int .i64 q) : Rd U ⟨dst, .call ⟨.builtin .max, #[x, y], ats⟩, ty, pos, after, guard⟩ T R (.int .i64 (max p q)) := fun a w he hh => by
  simp [execOp, resolve, invoke, builtin, he, hx, hy, Builtin.max_, Builtin.max2]
  rw [Int.max_def]; split <;> split <;> omega
/-! ### The steps of a walk, as the printed lines have them -/
section
variable {n : Nat} {ops : Array Oper} {l : List Oper} {Q : Post} {d : Tmp} {op : Op}
theorem wr {v : Value} (h : Rd U ⟨some d, op, ty, pos, after, guard⟩ T H v) (hw : Region.wanted ⟨some d, op, ty, pos, after, guard⟩ (yieldedT ops T) = true) (hd : decide (d < n) = true)
    (hk : WL U n ops l (upd T d v) H N Q) : WL U n ops (⟨some d, op, ty, pos, after, guard⟩ :: l) T H N Q := wl_step U hw hd (h.opw U hk)
theorem wl_pass (hw : Region.wanted ⟨some d, op, ty, pos, after, guard⟩ (yieldedT ops T) = false) (hd : decide (d < n) = true)
    (hk : WL U n ops l (upd T d undef) H N Q) : WL U n ops (⟨some d, op, ty, pos, after, guard⟩ :: l) T H N Q := wl_skip U hw hd hk
theorem wl_op (hw : Region.wanted ⟨some d, op, ty, pos, after, guard⟩ (yieldedT ops T) = true) (hd : decide (d < n) = true)
    (h : OpW U ⟨some d, op, ty, pos, after, guard⟩ T H N fun v H' N' => WL U n ops l (upd T d v) H' N' Q) : WL U n ops (⟨some d, op, ty, pos, after, guard⟩ :: l) T H N Q := wl_step U hw hd h
theorem wl_op0 (hw : Region.wanted ⟨none, op, ty, pos, after, guard⟩ (yieldedT ops T) = true)
    (h : OpW U ⟨none, op, ty, pos, after, guard⟩ T H N fun _ H' N' => WL U n ops l T H' N' Q) : WL U n ops (⟨none, op, ty, pos, after, guard⟩ :: l) T H N Q := wl_step U hw rfl h
variable {fuel : Nat} {listed : Array Bool}
theorem wh_rd (j : Nat) {v : Value} (hi : ops[j]? = some ⟨some d, op, ty, pos, after, guard⟩) (h : Rd U ⟨some d, op, ty, pos, after, guard⟩ T R v) (hsel : Region.noSelect ops = true) (hf : Region.free .any ops listed j = true)
    (hr : (Region.ready .any ops listed).contains j = true) (hw : Region.wanted ⟨some d, op, ty, pos, after, guard⟩ (yieldedT ops T) = true) (hd : decide (d < n) = true) (hs : Sub R H)
    (hk : WH U n ops R fuel (listed.setIfInBounds j true) (upd T d v) H N Q) : WH U n ops R (fuel + 1) listed T H N Q := wh_take U j h hi hsel hf hr hw hd hs hk
theorem wh_skip (j : Nat) (hi : ops[j]? = some ⟨some d, op, ty, pos, after, guard⟩) (hsel : Region.noSelect ops = true) (hf : Region.free .any ops listed j = true)
    (hr : (Region.ready .any ops listed).contains j = true) (hw : Region.wanted ⟨some d, op, ty, pos, after, guard⟩ (yieldedT ops T) = false) (hd : decide (d < n) = true) (hs : Sub R H)
    (hk : WH U n ops R fuel (listed.setIfInBounds j true) (upd T d undef) H N Q) : WH U n ops R (fuel + 1) listed T H N Q := wh_pass U j hi hsel hf hr hw hd hs hk
theorem wh_op (j : Nat) (hr : Region.ready .any ops listed = [j]) (hi : ops[j]? = some ⟨some d, op, ty, pos, after, guard⟩) (hw : Region.wanted ⟨some d, op, ty, pos, after, guard⟩ (yieldedT ops T) = true) (hd : decide (d < n) = true)
    (h : OpW U ⟨some d, op, ty, pos, after, guard⟩ T H N fun v H' N' => Sub R H' ∧ WH U n ops R fuel (listed.setIfInBounds j true) (upd T d v) H' N' Q) : WH U n ops R (fuel + 1) listed T H N Q := wh_one U j hr hi hw hd h
theorem wh_op0 (j : Nat) (hr : Region.ready .any ops listed = [j]) (hi : ops[j]? = some ⟨none, op, ty, pos, after, guard⟩) (hw : Region.wanted ⟨none, op, ty, pos, after, guard⟩ (yieldedT ops T) = true)
    (h : OpW U ⟨none, op, ty, pos, after, guard⟩ T H N fun _ H' N' => Sub R H' ∧ WH U n ops R fuel (listed.setIfInBounds j true) T H' N' Q) : WH U n ops R (fuel + 1) listed T H N Q := wh_one U j hr hi hw rfl h
end
/-! ### How a body ends -/
variable {fn : Func} {f : FuncId}
theorem endQ {e : Exit} {v : Value} (he : e = .ret ∨ e = .normal) (hr : ∀ (a : Act) (w : World), (∀ i, a.tmps.getD i undef = T i) → Own U H N w → (results fn a.tmps).run P w = .ok v w) (hk : K v H N) : bodyQ U fn K e T H N := by
  rcases he with rfl | rfl <;> exact ⟨v, hr, hk⟩
theorem end0 {e : Exit} (he : e = .ret ∨ e = .normal) (hf : fn.results = #[]) (hk : K (.tuple #[]) H N) : bodyQ U fn K e T H N := endQ U he (fun a w _ _ => by simp [results, hf]) hk
theorem end1 {e : Exit} {t : Nat} {v : Value} (he : e = .ret ∨ e = .normal) (hf : fn.results = #[.tmp t]) (hv : T t = v) (hk : K v H N) : bodyQ U fn K e T H N := endQ U he (fun a w h _ => by
  have h1 := h t
  rw [hv] at h1
  simpa [results, hf] using h1) hk
theorem end2 {e : Exit} {t u : Nat} {v v' : Value} (he : e = .ret ∨ e = .normal) (hf : fn.results = #[.tmp t, .tmp u]) (hv : T t = v) (hv' : T u = v') (hk : K (.tuple #[v, v']) H N) : bodyQ U fn K e T H N := endQ U he (fun a w h _ => by
  have h1 := h t
  have h2 := h u
  rw [hv] at h1
  rw [hv'] at h2
  simp only [Array.getD_eq_getD_getElem?] at h1 h2
  simp [results, hf, h1, h2]) hk
theorem spa {m : Nat} {c : Code} {args : Array Value} (hf : P.funcs[f]? = some fn) (hm : fn.ntmps = m) (hb : fn.body = some c) (hn : args.size ≤ m)
    (h : U.B ≤ N → (∀ b o, H b = some o → U.B ≤ b ∧ b < N) → WC U m c (argsT args) H N (bodyQ U fn K)) : Spec U f args H N K := by
  subst hm
  refine spec_of U hf hb hn fun a w hs => ?_
  exact h hs.own.hBN (fun b o e => ⟨(hs.own.blk b o e).1, hs.own.lt b o e⟩) a w hs
/-- At the beginning of a body. -/
theorem wc_own {c : Code} {Q : Post} (h : U.B ≤ N → (∀ b o, H b = some o → U.B ≤ b ∧ b < N) → WC U n c T H N Q) : WC U n c T H N Q :=
  fun a w hs => h hs.own.hBN (fun b o e => ⟨(hs.own.blk b o e).1, hs.own.lt b o e⟩) a w hs
theorem wl_own {ops : Array Oper} {l : List Oper} {Q : Post} (h : U.B ≤ N → (∀ b o, H b = some o → U.B ≤ b ∧ b < N) → WL U n ops l T H N Q) : WL U n ops l T H N Q :=
  fun a w hs => h hs.own.hBN (fun b o e => ⟨(hs.own.blk b o e).1, hs.own.lt b o e⟩) a w hs
/-! ### Ways out -/
section
variable {K' : Tm → Hp → Nat → Prop} {Q : Post} {id id' : Nat}
theorem ret1 (h : Q .ret T H N) : andThen K' Q .ret T H N := h
theorem ret2 (h : Q .ret T H N) : inBlock id Q .ret T H N := h
theorem xt (h : Q (.exit id) T H N) : andThen K' Q (.exit id) T H N := h
theorem xbl (h : Q .normal T H N) : inBlock id Q (.exit id) T H N := by simp only [inBlock, if_true]; exact h
theorem xps (hne : id' ≠ id) (h : Q (.exit id') T H N) : inBlock id Q (.exit id') T H N := by simp only [inBlock, if_neg hne]; exact h
theorem nt (h : K' T H N) : andThen K' Q .normal T H N := h
theorem nq (h : Q .normal T H N) : inBlock id Q .normal T H N := h
end
/-! ### What a frame holds -/
def Has (T : Tm) : List (Nat × Value) → Prop
  | [] => True
  | (i, v) :: l => T i = v ∧ Has T l
def setTs (J : Tm) : List (Nat × Value) → Tm
  | [] => J
  | (i, v) :: l => upd (setTs J l) i v
theorem Has.out {T : Tm} {l : List (Nat × Value)} (h : Has T l) : T = setTs T l := by
  induction l with
  | nil => rfl
  | cons p l ih =>
    obtain ⟨i, v⟩ := p
    obtain ⟨h1, h2⟩ := h
    funext j
    simp only [setTs, upd]
    split
    · rename_i hj; rw [hj, h1]
    · exact congrFun (ih h2) j
theorem Has.ex {T : Tm} {l : List (Nat × Value)} (h : Has T l) : ∃ J, T = setTs J l := ⟨T, h.out⟩
/-! ### What of memory is kept -/
theorem hsy {H : Hp} {b : Nat} {o : Blk} : hset H b o b = some o := by simp [hset]
theorem hsn {H : Hp} {b c : Nat} {o : Blk} (h : b ≠ c) : hset H c o b = H b := by simp [hset, h]
theorem hdel_ne {H : Hp} {b c : Nat} (h : b ≠ c) : hdel H c b = H b := by simp [hdel, h]
theorem Sub.hset {F H : Hp} {c : Nat} {o : Blk} (h : Sub F H) (hc : F c = none) : Sub F (hset H c o) := by
  intro b o' e
  by_cases hb : b = c
  · subst hb; rw [hc] at e; cases e
  · rw [hsn hb]; exact h b o' e
theorem Sub.hdel {F H : Hp} {c : Nat} (h : Sub F H) (hc : F c = none) : Sub F (hdel H c) := by
  intro b o' e
  by_cases hb : b = c
  · subst hb; rw [hc] at e; cases e
  · rw [hdel_ne hb]; exact h b o' e
/-- Nothing is known of a block from 'N' on, or below 'M'. -/
def Within (F : Hp) (M N : Nat) : Prop := ∀ b o, F b = some o → M ≤ b ∧ b < N
theorem Within.none {F : Hp} {M N c : Nat} (h : Within F M N) (hc : c < M ∨ N ≤ c) : F c = none := by
  cases hF : F c with
  | none => rfl
  | some o => have := h c o hF; omega
def join (F G : Hp) : Hp := fun b => match F b with | some o => some o | none => G b
/-- A slice that can be read: its cells, 'sz' of them an element. -/
def RdS (F : Hp) (v : Value) (sz : Nat) (cs : List Value) : Prop :=
  ∃ p k cap, v = .slice p k cap ∧ k ≤ cap ∧ cs.length = k * sz ∧ (0 < k → ∃ b off, p = some ⟨b, off, none⟩ ∧ ∀ j u, cs[j]? = some u → rd U F b (off + j) = some u)
theorem RdS.sub {F H : Hp} {v : Value} {sz : Nat} {cs : List Value} (h : RdS U F v sz cs) (hs : Sub F H) : RdS U H v sz cs := by
  obtain ⟨p, k, cap, h1, h2, h3, h4⟩ := h
  exact ⟨p, k, cap, h1, h2, h3, fun hk => by obtain ⟨b, off, h5, h6⟩ := h4 hk; exact ⟨b, off, h5, fun j u hu => rd_sub U hs (h6 j u hu)⟩⟩
theorem fresh {H : Hp} {M N c : Nat} (h : ∀ b o, H b = some o → M ≤ b ∧ b < N) (hc : N ≤ c) : H c = none := by
  cases hF : H c with
  | none => rfl
  | some o => have := h c o hF; omega
def ints (xs : List Int) : List Value := xs.map fun x => .int .i64 x
theorem ints_get {xs : List Int} {j : Nat} (h : j < xs.length) : (ints xs)[j]? = some (.int .i64 xs[j]) := by simp [ints, h]
theorem ints_length (xs : List Int) : (ints xs).length = xs.length := by simp [ints]
/-- One cell of a slice that can be read. -/
theorem RdS.get {F : Hp} {b off k cap sz : Nat} {cs : List Value} (h : RdS U F (.slice (some ⟨b, off, none⟩) k cap) sz cs) {j : Nat} {u : Value} (hu : cs[j]? = some u) : rd U F b (off + j) = some u := by
  obtain ⟨p, k', cap', h1, h2, h3, h4⟩ := h
  cases h1
  have hj : j < cs.length := by
    rcases Nat.lt_or_ge j cs.length with h' | h'
    · exact h'
    · rw [List.getElem?_eq_none h'] at hu; cases hu
  have hk : 0 < k := by
    rcases Nat.eq_zero_or_pos k with h' | h'
    · subst h'; omega
    · exact h'
  obtain ⟨b', off', h5, h6⟩ := h4 hk
  cases h5
  exact h6 j u hu
theorem RdS.out {F : Hp} {v : Value} {sz : Nat} {cs : List Value} (h : RdS U F v sz cs) : ∃ p k cap, v = .slice p k cap ∧ k ≤ cap ∧ cs.length = k * sz ∧ (0 < k → ∃ b off, p = some ⟨b, off, none⟩) := by
  obtain ⟨p, k, cap, h1, h2, h3, h4⟩ := h
  exact ⟨p, k, cap, h1, h2, h3, fun hk => by obtain ⟨b, off, h5, _⟩ := h4 hk; exact ⟨b, off, h5⟩⟩
theorem RdS.nil {F : Hp} {sz : Nat} : RdS U F (.slice none 0 0) sz [] := ⟨none, 0, 0, rfl, Nat.le_refl _, by simp, fun h => absurd h (by omega)⟩
theorem IsSl.rds {H : Hp} {v : Value} {e sz : Nat} {cs : List Value} (h : IsSl H v e sz cs) (hB : ∀ b o, H b = some o → U.B ≤ b) : RdS U H v sz cs := by
  rcases h with ⟨rfl, rfl⟩ | ⟨b, off, k, cap, tot, rfl, hH, hl, hk, _⟩
  · exact RdS.nil U
  · refine ⟨_, k, cap, rfl, hk, hl, fun _ => ⟨b, off, rfl, fun j u hu => ?_⟩⟩
    rw [rrw U (hB b _ hH) hH, if_pos (by omega), show off + j - off = j by omega]; exact hu
end Go.Proofs.YtdmodppoellbkaaGreat
namespace Go.Proofs.YtdmodppoellbkaaGreat
open Go Go.RowKit
theorem sl_22 : SlT 22 43 3 24 (.agg #[(.int .i64 0), (.int .i64 0), (.int .i64 0)]) := ⟨by unfold P; kernel_rfl, by unfold P; kernel_rfl⟩
theorem sl_25 : SlT 25 26 1 24 (.slice none 0 0) := ⟨by unfold P; kernel_rfl, by unfold P; kernel_rfl⟩
theorem sl_26 : SlT 26 3 1 8 (.int .i64 0) := ⟨by unfold P; kernel_rfl, by unfold P; kernel_rfl⟩
theorem sl_53 : SlT 53 57 1 24 (.slice none 0 0) := ⟨by unfold P; kernel_rfl, by unfold P; kernel_rfl⟩
theorem sl_57 : SlT 57 56 2 16 (.agg #[(.int .i64 0), (.int .i64 0)]) := ⟨by unfold P; kernel_rfl, by unfold P; kernel_rfl⟩
theorem sl_67 : SlT 67 4 1 1 (.bool false) := ⟨by unfold P; kernel_rfl, by unfold P; kernel_rfl⟩
theorem sl_87 : SlT 87 89 1 24 (.slice none 0 0) := ⟨by unfold P; kernel_rfl, by unfold P; kernel_rfl⟩
theorem sl_89 : SlT 89 91 2 16 (.agg #[(.int .i64 0), (.int .i64 0)]) := ⟨by unfold P; kernel_rfl, by unfold P; kernel_rfl⟩
theorem sl_98 : SlT 98 139 2 48 (.agg #[(.slice none 0 0), (.slice none 0 0)]) := ⟨by unfold P; kernel_rfl, by unfold P; kernel_rfl⟩
theorem sl_99 : SlT 99 63 1 8 .nilFunc := ⟨by unfold P; kernel_rfl, by unfold P; kernel_rfl⟩
theorem sl_102 : SlT 102 106 2 32 (.agg #[(.int .i64 0), (.slice none 0 0)]) := ⟨by unfold P; kernel_rfl, by unfold P; kernel_rfl⟩
theorem sl_134 : SlT 134 64 1 8 (.map none) := ⟨by unfold P; kernel_rfl, by unfold P; kernel_rfl⟩
theorem el_2 : eltB 2 1 false = true := by unfold eltB P; kernel_rfl
theorem el_3 : eltB 3 1 false = true := by unfold eltB P; kernel_rfl
theorem el_4 : eltB 4 1 false = true := by unfold eltB P; kernel_rfl
theorem el_22 : eltB 22 1 false = true := by unfold eltB P; kernel_rfl
theorem el_24 : eltB 24 2 true = true := by unfold eltB P; kernel_rfl
theorem el_25 : eltB 25 1 false = true := by unfold eltB P; kernel_rfl
theorem el_26 : eltB 26 1 false = true := by unfold eltB P; kernel_rfl
theorem el_28 : eltB 28 1 false = true := by unfold eltB P; kernel_rfl
theorem el_43 : eltB 43 3 true = true := by unfold eltB P; kernel_rfl
theorem el_46 : eltB 46 1 false = true := by unfold eltB P; kernel_rfl
theorem el_53 : eltB 53 1 false = true := by unfold eltB P; kernel_rfl
theorem el_56 : eltB 56 2 true = true := by unfold eltB P; kernel_rfl
theorem el_57 : eltB 57 1 false = true := by unfold eltB P; kernel_rfl
theorem el_63 : eltB 63 1 false = true := by unfold eltB P; kernel_rfl
theorem el_64 : eltB 64 1 false = true := by unfold eltB P; kernel_rfl
theorem el_67 : eltB 67 1 false = true := by unfold eltB P; kernel_rfl
theorem el_77 : eltB 77 1 false = true := by unfold eltB P; kernel_rfl
theorem el_87 : eltB 87 1 false = true := by unfold eltB P; kernel_rfl
theorem el_89 : eltB 89 1 false = true := by unfold eltB P; kernel_rfl
theorem el_91 : eltB 91 2 true = true := by unfold eltB P; kernel_rfl
theorem el_97 : eltB 97 1 false = true := by unfold eltB P; kernel_rfl
theorem el_98 : eltB 98 1 false = true := by unfold eltB P; kernel_rfl
theorem el_99 : eltB 99 1 false = true := by unfold eltB P; kernel_rfl
theorem el_101 : eltB 101 3 true = true := by unfold eltB P; kernel_rfl
theorem el_102 : eltB 102 1 false = true := by unfold eltB P; kernel_rfl
theorem el_106 : eltB 106 2 true = true := by unfold eltB P; kernel_rfl
theorem el_108 : eltB 108 1 false = true := by unfold eltB P; kernel_rfl
theorem el_109 : eltB 109 1 false = true := by unfold eltB P; kernel_rfl
theorem el_139 : eltB 139 2 true = true := by unfold eltB P; kernel_rfl
theorem el_142 : eltB 142 1 false = true := by unfold eltB P; kernel_rfl
theorem fb_24_0 : fieldB 24 0 0 = true := by unfold fieldB P; kernel_rfl
theorem fb_24_1 : fieldB 24 1 1 = true := by unfold fieldB P; kernel_rfl
theorem fb_43_0 : fieldB 43 0 0 = true := by unfold fieldB P; kernel_rfl
theorem fb_43_1 : fieldB 43 1 1 = true := by unfold fieldB P; kernel_rfl
theorem fb_43_2 : fieldB 43 2 2 = true := by unfold fieldB P; kernel_rfl
theorem fb_56_0 : fieldB 56 0 0 = true := by unfold fieldB P; kernel_rfl
theorem fb_56_1 : fieldB 56 1 1 = true := by unfold fieldB P; kernel_rfl
theorem fb_106_0 : fieldB 106 0 0 = true := by unfold fieldB P; kernel_rfl
theorem fb_106_1 : fieldB 106 1 1 = true := by unfold fieldB P; kernel_rfl
theorem fb_139_0 : fieldB 139 0 0 = true := by unfold fieldB P; kernel_rfl
theorem fb_139_1 : fieldB 139 1 1 = true := by unfold fieldB P; kernel_rfl
theorem fb_101_0 : fieldB 101 0 0 = true := by unfold fieldB P; kernel_rfl
theorem fb_101_1 : fieldB 101 1 1 = true := by unfold fieldB P; kernel_rfl
theorem fb_101_2 : fieldB 101 2 2 = true := by unfold fieldB P; kernel_rfl
theorem fb_91_0 : fieldB 91 0 0 = true := by unfold fieldB P; kernel_rfl
theorem fb_91_1 : fieldB 91 1 1 = true := by unfold fieldB P; kernel_rfl
theorem z_24 : (P.info? 24).map (·.zero) = some (some (.agg #[(.int .i64 0), (.slice none 0 0)])) := by unfold P; kernel_rfl
theorem z_26 : (P.info? 26).map (·.zero) = some (some (.slice none 0 0)) := by unfold P; kernel_rfl
theorem z_43 : (P.info? 43).map (·.zero) = some (some (.agg #[(.int .i64 0), (.int .i64 0), (.int .i64 0)])) := by unfold P; kernel_rfl
theorem z_56 : (P.info? 56).map (·.zero) = some (some (.agg #[(.int .i64 0), (.int .i64 0)])) := by unfold P; kernel_rfl
theorem z_63 : (P.info? 63).map (·.zero) = some (some .nilFunc) := by unfold P; kernel_rfl
theorem z_64 : (P.info? 64).map (·.zero) = some (some (.map none)) := by unfold P; kernel_rfl
theorem z_67 : (P.info? 67).map (·.zero) = some (some (.slice none 0 0)) := by unfold P; kernel_rfl
theorem z_91 : (P.info? 91).map (·.zero) = some (some (.agg #[(.int .i64 0), (.int .i64 0)])) := by unfold P; kernel_rfl
theorem z_97 : (P.info? 97).map (·.zero) = some (some (.pointer none)) := by unfold P; kernel_rfl
theorem z_106 : (P.info? 106).map (·.zero) = some (some (.agg #[(.int .i64 0), (.slice none 0 0)])) := by unfold P; kernel_rfl
theorem z_139 : (P.info? 139).map (·.zero) = some (some (.agg #[(.slice none 0 0), (.slice none 0 0)])) := by unfold P; kernel_rfl
theorem u_3 : P.underlying 3 = some (.int .i64) := by unfold P; kernel_rfl
theorem u_77 : P.underlying 77 = some (.int .u64) := by unfold P; kernel_rfl
theorem um_64 : P.underlying 64 = some (.map 3 4) := by unfold P; kernel_rfl
theorem um_46 : P.underlying 46 = some (.map 3 3) := by unfold P; kernel_rfl
theorem um_123 : P.underlying 123 = some (.map 56 56) := by unfold P; kernel_rfl
theorem um_127 : P.underlying 127 = some (.map 56 4) := by unfold P; kernel_rfl
theorem z_3 : (P.info? 3).map (·.zero) = some (some (.int .i64 0)) := by unfold P; kernel_rfl
theorem z_4 : (P.info? 4).map (·.zero) = some (some (.bool false)) := by unfold P; kernel_rfl
theorem mixed : P.follows .mixedOrders = true := by unfold P; kernel_rfl
theorem pf_3 : P.funcs[3]? = some Tryz.f3 := by unfold P; exact Tryz.func3
theorem pf_4 : P.funcs[4]? = some Tryz.f4 := by unfold P; exact Tryz.func4
theorem pf_5 : P.funcs[5]? = some Tryz.f5 := by unfold P; exact Tryz.func5
theorem pf_6 : P.funcs[6]? = some Tryz.f6 := by unfold P; exact Tryz.func6
theorem pf_7 : P.funcs[7]? = some Tryz.f7 := by unfold P; exact Tryz.func7
theorem pf_8 : P.funcs[8]? = some Tryz.f8 := by unfold P; exact Tryz.func8
theorem pf_9 : P.funcs[9]? = some Tryz.f9 := by unfold P; exact Tryz.func9
theorem pf_10 : P.funcs[10]? = some Tryz.f10 := by unfold P; exact Tryz.func10
theorem pf_11 : P.funcs[11]? = some Tryz.f11 := by unfold P; exact Tryz.func11
theorem pf_12 : P.funcs[12]? = some Tryz.f12 := by unfold P; exact Tryz.func12
theorem pf_13 : P.funcs[13]? = some Tryz.f13 := by unfold P; exact Tryz.func13
theorem pf_14 : P.funcs[14]? = some Tryz.f14 := by unfold P; exact Tryz.func14
theorem pf_15 : P.funcs[15]? = some Tryz.f15 := by unfold P; exact Tryz.func15
theorem pf_16 : P.funcs[16]? = some Tryz.f16 := by unfold P; exact Tryz.func16
theorem pf_17 : P.funcs[17]? = some Tryz.f17 := by unfold P; exact Tryz.func17
theorem pf_18 : P.funcs[18]? = some Tryz.f18 := by unfold P; exact Tryz.func18
theorem pf_19 : P.funcs[19]? = some Tryz.f19 := by unfold P; exact Tryz.func19
theorem pf_20 : P.funcs[20]? = some Tryz.f20 := by unfold P; exact Tryz.func20
theorem pf_21 : P.funcs[21]? = some Tryz.f21 := by unfold P; exact Tryz.func21
theorem pf_22 : P.funcs[22]? = some Tryz.f22 := by unfold P; exact Tryz.func22
theorem pf_23 : P.funcs[23]? = some Tryz.f23 := by unfold P; exact Tryz.func23
theorem pf_24 : P.funcs[24]? = some Tryz.f24 := by unfold P; exact Tryz.func24
theorem pf_25 : P.funcs[25]? = some Tryz.f25 := by unfold P; exact Tryz.func25
theorem pf_26 : P.funcs[26]? = some Tryz.f26 := by unfold P; exact Tryz.func26
theorem pf_27 : P.funcs[27]? = some Tryz.f27 := by unfold P; exact Tryz.func27
theorem pf_28 : P.funcs[28]? = some Tryz.f28 := by unfold P; exact Tryz.func28
theorem pf_29 : P.funcs[29]? = some Tryz.f29 := by unfold P; exact Tryz.func29
theorem pf_30 : P.funcs[30]? = some Tryz.f30 := by unfold P; exact Tryz.func30
theorem pf_31 : P.funcs[31]? = some Tryz.f31 := by unfold P; exact Tryz.func31
theorem pf_32 : P.funcs[32]? = some Tryz.f32 := by unfold P; exact Tryz.func32
theorem pf_33 : P.funcs[33]? = some Tryz.f33 := by unfold P; exact Tryz.func33
theorem pf_34 : P.funcs[34]? = some Tryz.f34 := by unfold P; exact Tryz.func34
theorem pf_35 : P.funcs[35]? = some Tryz.f35 := by unfold P; exact Tryz.func35
theorem pf_36 : P.funcs[36]? = some Tryz.f36 := by unfold P; exact Tryz.func36
theorem pf_37 : P.funcs[37]? = some Tryz.f37 := by unfold P; exact Tryz.func37
theorem pf_38 : P.funcs[38]? = some Tryz.f38 := by unfold P; exact Tryz.func38
theorem pf_39 : P.funcs[39]? = some Tryz.f39 := by unfold P; exact Tryz.func39
theorem pf_40 : P.funcs[40]? = some Tryz.f40 := by unfold P; exact Tryz.func40
theorem pf_41 : P.funcs[41]? = some Tryz.f41 := by unfold P; exact Tryz.func41
theorem pf_42 : P.funcs[42]? = some Tryz.f42 := by unfold P; exact Tryz.func42
theorem pf_43 : P.funcs[43]? = some Tryz.f43 := by unfold P; exact Tryz.func43
theorem pf_44 : P.funcs[44]? = some Tryz.f44 := by unfold P; exact Tryz.func44
theorem pf_45 : P.funcs[45]? = some Tryz.f45 := by unfold P; exact Tryz.func45
theorem pf_46 : P.funcs[46]? = some Tryz.f46 := by unfold P; exact Tryz.func46
theorem pf_47 : P.funcs[47]? = some Tryz.f47 := by unfold P; exact Tryz.func47
theorem pf_48 : P.funcs[48]? = some Tryz.f48 := by unfold P; exact Tryz.func48
theorem pf_49 : P.funcs[49]? = some Tryz.f49 := by unfold P; exact Tryz.func49
theorem pf_50 : P.funcs[50]? = some Tryz.f50 := by unfold P; exact Tryz.func50
theorem pf_51 : P.funcs[51]? = some Tryz.f51 := by unfold P; exact Tryz.func51
theorem pf_52 : P.funcs[52]? = some Tryz.f52 := by unfold P; exact Tryz.func52
theorem pf_53 : P.funcs[53]? = some Tryz.f53 := by unfold P; exact Tryz.func53
theorem pf_54 : P.funcs[54]? = some Tryz.f54 := by unfold P; exact Tryz.func54
theorem pf_55 : P.funcs[55]? = some Tryz.f55 := by unfold P; exact Tryz.func55
theorem pf_56 : P.funcs[56]? = some Tryz.f56 := by unfold P; exact Tryz.func56
theorem pf_57 : P.funcs[57]? = some Tryz.f57 := by unfold P; exact Tryz.func57
theorem pf_58 : P.funcs[58]? = some Tryz.f58 := by unfold P; exact Tryz.func58
theorem pf_59 : P.funcs[59]? = some Tryz.f59 := by unfold P; exact Tryz.func59
theorem pf_60 : P.funcs[60]? = some Tryz.f60 := by unfold P; exact Tryz.func60
theorem pf_61 : P.funcs[61]? = some Tryz.f61 := by unfold P; exact Tryz.func61
theorem pf_62 : P.funcs[62]? = some Tryz.f62 := by unfold P; exact Tryz.func62
theorem pf_63 : P.funcs[63]? = some Tryz.f63 := by unfold P; exact Tryz.func63
theorem pf_64 : P.funcs[64]? = some Tryz.f64 := by unfold P; exact Tryz.func64
theorem pf_65 : P.funcs[65]? = some Tryz.f65 := by unfold P; exact Tryz.func65
theorem pf_66 : P.funcs[66]? = some Tryz.f66 := by unfold P; exact Tryz.func66
theorem pf_67 : P.funcs[67]? = some Tryz.f67 := by unfold P; exact Tryz.func67
theorem pf_68 : P.funcs[68]? = some Tryz.f68 := by unfold P; exact Tryz.func68
theorem pf_69 : P.funcs[69]? = some Tryz.f69 := by unfold P; exact Tryz.func69
theorem pf_70 : P.funcs[70]? = some Tryz.f70 := by unfold P; exact Tryz.func70
theorem pf_71 : P.funcs[71]? = some Tryz.f71 := by unfold P; exact Tryz.func71
theorem pf_72 : P.funcs[72]? = some Tryz.f72 := by unfold P; exact Tryz.func72
theorem pf_73 : P.funcs[73]? = some Tryz.f73 := by unfold P; exact Tryz.func73
theorem pf_74 : P.funcs[74]? = some Tryz.f74 := by unfold P; exact Tryz.func74
theorem pf_75 : P.funcs[75]? = some Tryz.f75 := by unfold P; exact Tryz.func75
theorem pf_76 : P.funcs[76]? = some Tryz.f76 := by unfold P; exact Tryz.func76
theorem pf_77 : P.funcs[77]? = some Tryz.f77 := by unfold P; exact Tryz.func77
theorem pf_78 : P.funcs[78]? = some Tryz.f78 := by unfold P; exact Tryz.func78
theorem pf_79 : P.funcs[79]? = some Tryz.f79 := by unfold P; exact Tryz.func79
theorem pf_80 : P.funcs[80]? = some Tryz.f80 := by unfold P; exact Tryz.func80
theorem pf_81 : P.funcs[81]? = some Tryz.f81 := by unfold P; exact Tryz.func81
theorem pf_82 : P.funcs[82]? = some Tryz.f82 := by unfold P; exact Tryz.func82
theorem pf_83 : P.funcs[83]? = some Tryz.f83 := by unfold P; exact Tryz.func83
theorem pf_84 : P.funcs[84]? = some Tryz.f84 := by unfold P; exact Tryz.func84
theorem pf_85 : P.funcs[85]? = some Tryz.f85 := by unfold P; exact Tryz.func85
theorem pf_86 : P.funcs[86]? = some Tryz.f86 := by unfold P; exact Tryz.func86
theorem pf_87 : P.funcs[87]? = some Tryz.f87 := by unfold P; exact Tryz.func87
theorem pf_88 : P.funcs[88]? = some Tryz.f88 := by unfold P; exact Tryz.func88
theorem pf_89 : P.funcs[89]? = some Tryz.f89 := by unfold P; exact Tryz.func89
theorem pf_90 : P.funcs[90]? = some Tryz.f90 := by unfold P; exact Tryz.func90
theorem pf_91 : P.funcs[91]? = some Tryz.f91 := by unfold P; exact Tryz.func91
theorem pf_92 : P.funcs[92]? = some Tryz.f92 := by unfold P; exact Tryz.func92
theorem pf_93 : P.funcs[93]? = some Tryz.f93 := by unfold P; exact Tryz.func93
theorem pf_94 : P.funcs[94]? = some Tryz.f94 := by unfold P; exact Tryz.func94
theorem pf_95 : P.funcs[95]? = some Tryz.f95 := by unfold P; exact Tryz.func95
theorem pf_96 : P.funcs[96]? = some Tryz.f96 := by unfold P; exact Tryz.func96
theorem pf_97 : P.funcs[97]? = some Tryz.f97 := by unfold P; exact Tryz.func97
theorem pf_98 : P.funcs[98]? = some Tryz.f98 := by unfold P; exact Tryz.func98
theorem pf_99 : P.funcs[99]? = some Tryz.f99 := by unfold P; exact Tryz.func99
theorem pf_100 : P.funcs[100]? = some Tryz.f100 := by unfold P; exact Tryz.func100
theorem pf_101 : P.funcs[101]? = some Tryz.f101 := by unfold P; exact Tryz.func101
theorem pf_102 : P.funcs[102]? = some Tryz.f102 := by unfold P; exact Tryz.func102
theorem pf_103 : P.funcs[103]? = some Tryz.f103 := by unfold P; exact Tryz.func103
theorem pf_104 : P.funcs[104]? = some Tryz.f104 := by unfold P; exact Tryz.func104
theorem pf_105 : P.funcs[105]? = some Tryz.f105 := by unfold P; exact Tryz.func105
theorem pf_106 : P.funcs[106]? = some Tryz.f106 := by unfold P; exact Tryz.func106
theorem pf_107 : P.funcs[107]? = some Tryz.f107 := by unfold P; exact Tryz.func107
theorem pf_108 : P.funcs[108]? = some Tryz.f108 := by unfold P; exact Tryz.func108
theorem pf_109 : P.funcs[109]? = some Tryz.f109 := by unfold P; exact Tryz.func109
theorem pf_110 : P.funcs[110]? = some Tryz.f110 := by unfold P; exact Tryz.func110
theorem pf_111 : P.funcs[111]? = some Tryz.f111 := by unfold P; exact Tryz.func111
theorem pf_112 : P.funcs[112]? = some Tryz.f112 := by unfold P; exact Tryz.func112
theorem pf_113 : P.funcs[113]? = some Tryz.f113 := by unfold P; exact Tryz.func113
theorem pf_114 : P.funcs[114]? = some Tryz.f114 := by unfold P; exact Tryz.func114
theorem pf_115 : P.funcs[115]? = some Tryz.f115 := by unfold P; exact Tryz.func115
theorem pf_116 : P.funcs[116]? = some Tryz.f116 := by unfold P; exact Tryz.func116
theorem pf_117 : P.funcs[117]? = some Tryz.f117 := by unfold P; exact Tryz.func117
theorem pf_118 : P.funcs[118]? = some Tryz.f118 := by unfold P; exact Tryz.func118
theorem pf_119 : P.funcs[119]? = some Tryz.f119 := by unfold P; exact Tryz.func119
theorem pf_120 : P.funcs[120]? = some Tryz.f120 := by unfold P; exact Tryz.func120
theorem pf_121 : P.funcs[121]? = some Tryz.f121 := by unfold P; exact Tryz.func121
theorem pf_122 : P.funcs[122]? = some Tryz.f122 := by unfold P; exact Tryz.func122
theorem pf_123 : P.funcs[123]? = some Tryz.f123 := by unfold P; exact Tryz.func123
theorem pf_124 : P.funcs[124]? = some Tryz.f124 := by unfold P; exact Tryz.func124
theorem pf_125 : P.funcs[125]? = some Tryz.f125 := by unfold P; exact Tryz.func125
theorem pf_126 : P.funcs[126]? = some Tryz.f126 := by unfold P; exact Tryz.func126
theorem pf_127 : P.funcs[127]? = some Tryz.f127 := by unfold P; exact Tryz.func127
theorem pf_128 : P.funcs[128]? = some Tryz.f128 := by unfold P; exact Tryz.func128
theorem pf_129 : P.funcs[129]? = some Tryz.f129 := by unfold P; exact Tryz.func129
theorem pf_130 : P.funcs[130]? = some Tryz.f130 := by unfold P; exact Tryz.func130
end Go.Proofs.YtdmodppoellbkaaGreat
namespace Go.Proofs.YtdmodppoellbkaaGreat
open Go Go.RowKit
variable (U : Cx)
variable {n : Nat} {T : Tm} {R H : Hp} {N : Nat} {dst : Option Tmp} {ty : TypeId} {pos : String} {after : Array Edge} {guard : Option (Nat × Bool)} {x y z i : Operand} {K : Value → Hp → Nat → Prop}
def blkOf : Value → Option Nat
  | .slice (some a) _ _ => some a.block
  | .map (some b) => some b
  | .pointer (some a) => some a.block
  | _ => none
theorem op_appendF {t e sz bytes b2 off2 m cap2 : Nat} {v z0 : Value} {cs ys : List Value} (hs : SlT t e sz bytes z0) (hz0 : z0.cells.size = sz) (hsz : 0 < sz) (hx : ev T x = v) (hv : IsSl H v e sz cs)
    (hy : ev T y = .slice (some ⟨b2, off2, none⟩) m cap2) (hl : ys.length = m * sz) (hys : ∀ j u, ys[j]? = some u → rd U H b2 (off2 + j) = some u) (h1 : ∀ u ∈ ys, u.oneCell' = true) (hm : 0 < m)
    (hbound : (cs.length + ys.length) * bytes ≤ 140737488355328) (hbound2 : cs.length + ys.length ≤ 140737488355328)
    (hk : ∀ v' H' N', N ≤ N' → IsSl H' v' e sz (cs ++ ys) → (∀ c, c < N → blkOf v ≠ some c → H' c = H c) → (∃ c, blkOf v' = some c ∧ c < N' ∧ (blkOf v = some c ∨ N ≤ c)) → K v' H' N') :
    OpW U ⟨dst, .call ⟨.builtin .append, #[x, y], #[t, t]⟩, ty, pos, after, guard⟩ T H N K := by
  refine op_append U hs hz0 hsz hx hv hy hl hys h1 hm hbound hbound2 ?_
  intro b' off' k' cap' tot' N' hN hb hor hlen hkc htot
  refine hk _ _ _ hN (.inr ⟨b', off', k', cap', tot', rfl, hsy, hlen, hkc, htot⟩) ?_ ⟨b', rfl, hb, ?_⟩
  · intro c hc hne
    have hcb : c ≠ b' := by
      rintro rfl
      rcases hor with h | ⟨off, k, cap, h⟩
      · omega
      · exact hne (by rw [h]; rfl)
    rw [hsn hcb]
    unfold hdelV
    split
    · rename_i a k cap
      exact hdel_ne (by rintro rfl; exact hne rfl)
    · rfl
  · rcases hor with h | ⟨off, k, cap, h⟩
    · exact .inr (by omega)
    · exact .inl (by rw [h]; rfl)
/-- The slice that a literal made, read. -/
theorem lit_read {H : Hp} {b e tot : Nat} {cs : List Value} (hB : U.B ≤ b) : ∀ j u, cs[j]? = some u → rd U (hset H b (.row e 0 cs tot)) b (0 + j) = some u := by
  intro j u h
  rw [rhq U hB, if_pos (by omega)]; simpa using h
/-- One element more: the literal of one element lies in block N. -/
theorem op_append1 {t e sz bytes b2 tot2 cap2 : Nat} {v z0 : Value} {cs ys : List Value} {H0 : Hp} (hs : SlT t e sz bytes z0) (hz0 : z0.cells.size = sz) (hsz : 0 < sz) (hx : ev T x = v) (hv : IsSl H0 v e sz cs) (hvb : blkOf v ≠ some b2)
    (hy : ev T y = .slice (some ⟨b2, 0, none⟩) 1 cap2) (hH : H = hset H0 b2 (.row e 0 ys tot2)) (hl : ys.length = sz) (hB : U.B ≤ b2) (h1 : ∀ u ∈ ys, u.oneCell' = true)
    (hbound : (cs.length + sz) * bytes ≤ 140737488355328) (hbound2 : cs.length + sz ≤ 140737488355328)
    (hk : ∀ v' H' N', N ≤ N' → IsSl H' v' e sz (cs ++ ys) → (∀ c, c < N → blkOf v ≠ some c → H' c = H c) → (∃ c, blkOf v' = some c ∧ c < N' ∧ (blkOf v = some c ∨ N ≤ c)) → K v' H' N') :
    OpW U ⟨dst, .call ⟨.builtin .append, #[x, y], #[t, t]⟩, ty, pos, after, guard⟩ T H N K := by
  subst hH
  refine op_appendF U hs hz0 hsz hx (cs := cs) ?_ hy (ys := ys) (by simpa using hl) (lit_read U hB) h1 (by omega) (by rw [hl]; exact hbound) (by rw [hl]; exact hbound2) hk
  rcases hv with h | ⟨b, off, k, cap, tot, rfl, h2, h3, h4, h5⟩
  · exact .inl h
  · exact .inr ⟨b, off, k, cap, tot, rfl, by rw [hsn (fun h => hvb (by rw [h]; rfl))]; exact h2, h3, h4, h5⟩
/-- What is known of one block alone. -/
def one (b : Nat) (o : Blk) : Hp := fun c => if c = b then some o else none
def nothing : Hp := fun _ => none
theorem one_within {b M N : Nat} {o : Blk} (h1 : M ≤ b) (h2 : b < N) : Within (one b o) M N := by
  intro c o' h; unfold one at h; split at h
  · omega
  · cases h
theorem nothing_within {M N : Nat} : Within nothing M N := fun _ _ h => by cases h
theorem nothing_sub {H : Hp} : Sub nothing H := fun _ _ h => by cases h
theorem one_sub {H : Hp} {b : Nat} {o : Blk} (h : H b = some o) : Sub (one b o) H := by
  intro c o' hc; unfold one at hc; split at hc
  · rename_i hcb; subst hcb; cases hc; exact h
  · cases hc
/-- A slice of the call's own is known by its block alone. -/
theorem IsSl.one {H : Hp} {v : Value} {e sz : Nat} {cs : List Value} (h : IsSl H v e sz cs) : ∃ F, IsSl F v e sz cs ∧ Sub F H ∧ (∀ c o, F c = some o → blkOf v = some c) := by
  rcases h with h | ⟨b, off, k, cap, tot, rfl, h2, h3, h4, h5⟩
  · exact ⟨nothing, .inl h, nothing_sub, fun _ _ h => by cases h⟩
  · refine ⟨YtdmodppoellbkaaGreat.one b _, .inr ⟨b, off, k, cap, tot, rfl, by simp [YtdmodppoellbkaaGreat.one], h3, h4, h5⟩, one_sub h2, ?_⟩
    intro c o hc; unfold YtdmodppoellbkaaGreat.one at hc; split at hc
    · rename_i hcb; rw [hcb]; rfl
    · cases hc
theorem IsSl.sub {F H : Hp} {v : Value} {e sz : Nat} {cs : List Value} (h : IsSl F v e sz cs) (hs : Sub F H) : IsSl H v e sz cs := by
  rcases h with h | ⟨b, off, k, cap, tot, rfl, h2, h3, h4, h5⟩
  · exact .inl h
  · exact .inr ⟨b, off, k, cap, tot, rfl, hs _ _ h2, h3, h4, h5⟩
theorem IsSl.at {H H' : Hp} {v : Value} {e sz : Nat} {cs : List Value} (h : IsSl H v e sz cs) (hs : ∀ c, blkOf v = some c → H' c = H c) : IsSl H' v e sz cs := by
  rcases h with h | ⟨b, off, k, cap, tot, rfl, h2, h3, h4, h5⟩
  · exact .inl h
  · exact .inr ⟨b, off, k, cap, tot, rfl, by rw [hs b rfl]; exact h2, h3, h4, h5⟩
theorem IsSl.lt {H : Hp} {v : Value} {e sz M N : Nat} {cs : List Value} (h : IsSl H v e sz cs) (hl : ∀ b o, H b = some o → M ≤ b ∧ b < N) {c : Nat} (hc : blkOf v = some c) : M ≤ c ∧ c < N := by
  rcases h with ⟨rfl, _⟩ | ⟨b, off, k, cap, tot, rfl, h2, _⟩
  · cases hc
  · cases hc; exact hl _ _ h2
theorem Sub.of {F H H' : Hp} (h : Sub F H) (he : ∀ c o, F c = some o → H' c = H c) : Sub F H' := fun b o hb => by rw [he b o hb]; exact h b o hb
end Go.Proofs.YtdmodppoellbkaaGreat
namespace Go.Proofs.YtdmodppoellbkaaGreat
open Go Go.RowKit
variable (U : Cx)
theorem s88 (x : Int) (H : Hp) (N : Nat) : Spec U 88 #[(.int .i64 x)] H N (fun v H' N' => v = .bool false ∧ H = H' ∧ N = N') := by
  refine spa U pf_88 (m := 6) rfl rfl (by simp) fun hBN hlt => ?_
  obtain ⟨J, hJ⟩ := Has.ex (T := argsT #[(.int .i64 x)]) (l := [(0, (.int .i64 x))]) ⟨rfl, trivial⟩
  rw [hJ]; clear hJ
  repeat refine wq U ?_
  refine wg U ?_
  refine wr U ((ra U).to (v' := (.bool false)) rfl) rfl rfl ?_
  refine wz U ?_
  repeat refine wq U ?_
  refine wg U ?_
  refine wr U ((rm U).to (v' := (.int .i64 x)) rfl) rfl rfl ?_
  refine wr U ((rm U).to (v' := (.int .i64 x)) rfl) rfl rfl ?_
  refine wr U (rd_neq U rfl rfl) rfl rfl ?_
  refine wr U ((ra U).to (v' := (.bool (decide (x ≠ x)))) rfl) rfl rfl ?_
  refine wz U ?_
  refine wc_ret U ?_
  repeat (first|refine ret1 ?_|refine ret2 ?_)
  exact end1 U (.inl rfl) rfl (v := (.bool (decide (x ≠ x)))) rfl ⟨by simp, rfl, rfl⟩
def cmpI (x y : Int) : Int := if x < y then -1 else if y < x then 1 else 0
theorem s60 (x y : Int) (H : Hp) (N : Nat) : Spec U 60 #[(.int .i64 x), (.int .i64 y)] H N (fun v H' N' => v = .int .i64 (cmpI x y) ∧ H = H' ∧ N = N') := by
  refine spa U pf_60 (m := 20) rfl rfl (by simp) fun hBN hlt => ?_
  obtain ⟨J, hJ⟩ := Has.ex (T := argsT #[(.int .i64 x), (.int .i64 y)]) (l := [(0, (.int .i64 x)), (1, (.int .i64 y))]) ⟨rfl, rfl, trivial⟩
  rw [hJ]; clear hJ
  repeat refine wq U ?_
  refine wg U ?_
  refine wr U ((ra U).to (v' := (.int .i64 0)) rfl) rfl rfl ?_
  refine wz U ?_
  repeat refine wq U ?_
  refine wg U ?_
  refine wr U ((rm U).to (v' := (.int .i64 x)) rfl) rfl rfl ?_
  refine wl_op U rfl rfl (op_call U Tryz.f88 rfl rfl pf_88 (by kernel_rfl) (by kernel_rfl) ((s88 U x H N).mono U ?_))
  rintro _ _ _ ⟨rfl, rfl, rfl⟩
  refine wr U ((ra U).to (v' := (.bool false)) rfl) rfl rfl ?_
  refine wz U ?_
  repeat refine wq U ?_
  refine wg U ?_
  refine wr U ((rm U).to (v' := (.int .i64 y)) rfl) rfl rfl ?_
  refine wl_op U rfl rfl (op_call U Tryz.f88 rfl rfl pf_88 (by kernel_rfl) (by kernel_rfl) ((s88 U y H N).mono U ?_))
  rintro _ _ _ ⟨rfl, rfl, rfl⟩
  refine wr U ((ra U).to (v' := (.bool false)) rfl) rfl rfl ?_
  refine wz U ?_
  repeat refine wq U ?_
  refine wg U ?_
  refine wr U ((rm U).to (v' := (.bool false)) rfl) rfl rfl ?_
  refine wz U ?_
  repeat refine wq U ?_
  refine wcd U (t := false) rfl (fun h => nomatch h) fun _ => ?_
  refine wsk U ?_
  repeat refine wq U ?_
  refine wg U ?_
  refine wr U ((rm U).to (v' := (.bool false)) rfl) rfl rfl ?_
  refine wz U ?_
  repeat refine wq U ?_
  refine wcd U (t := false) rfl (fun h => nomatch h) fun _ => ?_
  refine wsk U ?_
  repeat refine wq U ?_
  refine wg U ?_
  refine wr U ((rm U).to (v' := (.int .i64 x)) rfl) rfl rfl ?_
  refine wr U ((rm U).to (v' := (.int .i64 y)) rfl) rfl rfl ?_
  refine wr U (rd_lss U rfl rfl) rfl rfl ?_
  refine wz U ?_
  repeat refine wq U ?_
  refine wcd U (t := (decide (x < y))) rfl (fun hc => ?_) fun hc => ?_
  · replace hc := of_decide_eq_true hc
    repeat refine wq U ?_
    refine wg U ?_
    refine wr U ((ra U).to (v' := (.int .i64 (-1))) rfl) rfl rfl ?_
    refine wz U ?_
    refine wc_ret U ?_
    repeat (first|refine ret1 ?_|refine ret2 ?_)
    exact end1 U (.inl rfl) rfl (v := (.int .i64 (-1))) rfl ⟨by rw [cmpI, if_pos hc], rfl, rfl⟩
  · replace hc := of_decide_eq_false hc
    refine wsk U ?_
    repeat refine wq U ?_
    refine wg U ?_
    refine wr U ((rm U).to (v' := (.int .i64 x)) rfl) rfl rfl ?_
    refine wr U ((rm U).to (v' := (.int .i64 y)) rfl) rfl rfl ?_
    refine wr U (rd_gtr U rfl rfl) rfl rfl ?_
    refine wz U ?_
    repeat refine wq U ?_
    refine wcd U (t := (decide (y < x))) rfl (fun hd => ?_) fun hd => ?_
    · replace hd := of_decide_eq_true hd
      repeat refine wq U ?_
      refine wg U ?_
      refine wr U ((ra U).to (v' := (.int .i64 1)) rfl) rfl rfl ?_
      refine wz U ?_
      refine wc_ret U ?_
      repeat (first|refine ret1 ?_|refine ret2 ?_)
      exact end1 U (.inl rfl) rfl (v := (.int .i64 1)) rfl ⟨by rw [cmpI, if_neg hc, if_pos hd], rfl, rfl⟩
    · replace hd := of_decide_eq_false hd
      refine wsk U ?_
      repeat refine wq U ?_
      refine wg U ?_
      refine wr U ((ra U).to (v' := (.int .i64 0)) rfl) rfl rfl ?_
      refine wz U ?_
      refine wc_ret U ?_
      repeat (first|refine ret1 ?_|refine ret2 ?_)
      exact end1 U (.inl rfl) rfl (v := (.int .i64 0)) rfl ⟨by rw [cmpI, if_neg hc, if_neg hd], rfl, rfl⟩
theorem s38 (n m : Int) (h0 : 0 ≤ n) (h1 : n ≤ 1048576) (h2 : m ≤ 4194304) (H : Hp) (N : Nat) : Spec U 38 #[(.int .i64 n), (.int .i64 m)] H N (fun v H' N' => v = .int .i64 0 ∧ H = H' ∧ N = N') := by
  refine spa U pf_38 (m := 13) rfl rfl (by simp) fun hBN hlt => ?_
  obtain ⟨J, hJ⟩ := Has.ex (T := argsT #[(.int .i64 n), (.int .i64 m)]) (l := [(0, (.int .i64 n)), (1, (.int .i64 m))]) ⟨rfl, rfl, trivial⟩
  rw [hJ]; clear hJ
  repeat refine wq U ?_
  refine wg U ?_
  refine wr U ((ra U).to (v' := (.int .i64 0)) rfl) rfl rfl ?_
  refine wz U ?_
  repeat refine wq U ?_
  refine wc_block U ?_
  repeat refine wq U ?_
  refine wg U ?_
  refine wr U ((rm U).to (v' := (.int .i64 n)) rfl) rfl rfl ?_
  refine wr U (rd_lss U rfl rfl) rfl rfl ?_
  refine wr U ((ra U).to (v' := (.bool (decide (n < 0)))) rfl) rfl rfl ?_
  refine wz U ?_
  repeat refine wq U ?_
  refine wcd U (t := (decide (n < 0))) rfl (fun h => absurd h (by rw [decide_eq_false (show ¬ n < 0 by omega)]; decide)) fun _ => ?_
  repeat refine wq U ?_
  refine wg U ?_
  refine wr U ((rm U).to (v' := (.int .i64 n)) rfl) rfl rfl ?_
  refine wr U (rd_gtr U rfl rfl) rfl rfl ?_
  refine wr U ((ra U).to (v' := (.bool (decide (1048576 < n)))) rfl) rfl rfl ?_
  refine wz U ?_
  repeat refine wq U ?_
  refine wcd U (t := (decide (1048576 < n))) rfl (fun h => absurd h (by rw [decide_eq_false (show ¬ 1048576 < n by omega)]; decide)) fun _ => ?_
  repeat refine wq U ?_
  refine wg U ?_
  refine wr U ((rm U).to (v' := (.int .i64 m)) rfl) rfl rfl ?_
  refine wr U (rd_gtr U rfl rfl) rfl rfl ?_
  refine wr U ((ra U).to (v' := (.bool (decide (4194304 < m)))) rfl) rfl rfl ?_
  refine wz U ?_
  repeat refine wq U ?_
  refine wcd U (t := (decide (4194304 < m))) rfl (fun h => absurd h (by rw [decide_eq_false (show ¬ 4194304 < m by omega)]; decide)) fun _ => ?_
  refine wsk U ?_
  repeat refine wq U ?_
  refine wg U ?_
  refine wr U ((ra U).to (v' := (.int .i64 0)) rfl) rfl rfl ?_
  refine wz U ?_
  refine wc_ret U ?_
  repeat (first|refine ret1 ?_|refine ret2 ?_)
  exact end1 U (.inl rfl) rfl (v := (.int .i64 0)) rfl ⟨rfl, rfl, rfl⟩
theorem s40 (n u v wt : Int) (h0 : 0 ≤ u) (h1 : u < v) (h2 : v < n) (h3 : -2147483648 < wt) (h4 : wt < 2147483648) (H : Hp) (N : Nat) : Spec U 40 #[(.int .i64 n), (.agg #[(.int .i64 u), (.int .i64 v), (.int .i64 wt)])] H N (fun v H' N' => v = .int .i64 0 ∧ Sub H H' ∧ N ≤ N') := by
  refine spa U pf_40 (m := 36) rfl rfl (by simp) fun hBN hlt => ?_
  obtain ⟨J, hJ⟩ := Has.ex (T := argsT #[(.int .i64 n), (.agg #[(.int .i64 u), (.int .i64 v), (.int .i64 wt)])]) (l := [(0, (.int .i64 n)), (1, (.agg #[(.int .i64 u), (.int .i64 v), (.int .i64 wt)]))]) ⟨rfl, rfl, trivial⟩
  rw [hJ]; clear hJ
  repeat refine wq U ?_
  refine wg U ?_
  refine wl_op U rfl rfl (op_box U rfl rfl ?_)
  refine wr U ((ra U).to (v' := (.int .i64 0)) rfl) rfl rfl ?_
  refine wz U ?_
  repeat refine wq U ?_
  refine wc_block U ?_
  repeat refine wq U ?_
  refine wg U ?_
  refine wr U ((rfa U fb_43_0 rfl).to (v' := (.pointer (some ⟨N, 0, none⟩))) rfl) rfl rfl ?_
  refine wr U (rl1 U el_3 rfl (v := (.int .i64 u)) (by rw [rhq U (by omega)]; rfl)) rfl rfl ?_
  refine wr U ((rfa U fb_43_1 rfl).to (v' := (.pointer (some ⟨N, 1, none⟩))) rfl) rfl rfl ?_
  refine wr U (rl1 U el_3 rfl (v := (.int .i64 v)) (by rw [rhq U (by omega)]; rfl)) rfl rfl ?_
  refine wr U (rd_min U rfl rfl) rfl rfl ?_
  refine wr U ((rd_lss U rfl rfl).to (v' := (.bool false)) (congrArg Value.bool (decide_eq_false (by omega)))) rfl rfl ?_
  refine wr U ((rm U).to (v' := (.bool false)) rfl) rfl rfl ?_
  refine wr U ((rfa U fb_43_0 rfl).to (v' := (.pointer (some ⟨N, 0, none⟩))) rfl) rfl rfl ?_
  refine wr U (rl1 U el_3 rfl (v := (.int .i64 u)) (by rw [rhq U (by omega)]; rfl)) rfl rfl ?_
  refine wr U ((rfa U fb_43_1 rfl).to (v' := (.pointer (some ⟨N, 1, none⟩))) rfl) rfl rfl ?_
  refine wr U (rl1 U el_3 rfl (v := (.int .i64 v)) (by rw [rhq U (by omega)]; rfl)) rfl rfl ?_
  refine wr U (rd_max U rfl rfl) rfl rfl ?_
  refine wr U ((rm U).to (v' := (.int .i64 n)) rfl) rfl rfl ?_
  refine wr U ((rd_geq U rfl rfl).to (v' := (.bool false)) (congrArg Value.bool (decide_eq_false (by omega)))) rfl rfl ?_
  refine wr U ((rd_pick U rfl).to (v' := (.bool false)) rfl) rfl rfl ?_
  refine wr U ((ra U).to (v' := (.bool false)) rfl) rfl rfl ?_
  refine wz U ?_
  repeat refine wq U ?_
  refine wcd U (t := false) rfl (fun h => nomatch h) fun _ => ?_
  repeat refine wq U ?_
  refine wg U ?_
  refine wr U ((rfa U fb_43_0 rfl).to (v' := (.pointer (some ⟨N, 0, none⟩))) rfl) rfl rfl ?_
  refine wr U (rl1 U el_3 rfl (v := (.int .i64 u)) (by rw [rhq U (by omega)]; rfl)) rfl rfl ?_
  refine wr U ((rfa U fb_43_1 rfl).to (v' := (.pointer (some ⟨N, 1, none⟩))) rfl) rfl rfl ?_
  refine wr U (rl1 U el_3 rfl (v := (.int .i64 v)) (by rw [rhq U (by omega)]; rfl)) rfl rfl ?_
  refine wr U ((rd_eql U rfl rfl).to (v' := (.bool false)) (congrArg Value.bool (decide_eq_false (by omega)))) rfl rfl ?_
  refine wr U ((ra U).to (v' := (.bool false)) rfl) rfl rfl ?_
  refine wz U ?_
  repeat refine wq U ?_
  refine wcd U (t := false) rfl (fun h => nomatch h) fun _ => ?_
  repeat refine wq U ?_
  refine wg U ?_
  refine wr U ((rfa U fb_43_2 rfl).to (v' := (.pointer (some ⟨N, 2, none⟩))) rfl) rfl rfl ?_
  refine wr U (rl1 U el_2 rfl (v := (.int .i64 wt)) (by rw [rhq U (by omega)]; rfl)) rfl rfl ?_
  refine wr U ((rd_leq U rfl rfl).to (v' := (.bool false)) (congrArg Value.bool (decide_eq_false (by omega)))) rfl rfl ?_
  refine wr U ((rm U).to (v' := (.bool false)) rfl) rfl rfl ?_
  refine wr U ((rfa U fb_43_2 rfl).to (v' := (.pointer (some ⟨N, 2, none⟩))) rfl) rfl rfl ?_
  refine wr U (rl1 U el_2 rfl (v := (.int .i64 wt)) (by rw [rhq U (by omega)]; rfl)) rfl rfl ?_
  refine wr U ((rd_geq U rfl rfl).to (v' := (.bool false)) (congrArg Value.bool (decide_eq_false (by omega)))) rfl rfl ?_
  refine wr U ((rd_pick U rfl).to (v' := (.bool false)) rfl) rfl rfl ?_
  refine wr U ((ra U).to (v' := (.bool false)) rfl) rfl rfl ?_
  refine wz U ?_
  repeat refine wq U ?_
  refine wcd U (t := false) rfl (fun h => nomatch h) fun _ => ?_
  refine wsk U ?_
  repeat refine wq U ?_
  refine wg U ?_
  refine wr U ((ra U).to (v' := (.int .i64 0)) rfl) rfl rfl ?_
  refine wz U ?_
  refine wc_ret U ?_
  repeat (first|refine ret1 ?_|refine ret2 ?_)
  exact end1 U (.inl rfl) rfl (v := (.int .i64 0)) rfl ⟨rfl, (Sub.refl H).hset (fresh hlt (Nat.le_refl _)), by omega⟩
def orI (xs : List Int) : Int := (xs.find? (· ≠ 0)).getD 0
theorem s59 (v : Value) (xs : List Int) (H : Hp) (N : Nat) (hx : xs.length ≤ 1000) (hv : RdS U H v 1 (ints xs)) : Spec U 59 #[v] H N (fun v H' N' => v = .int .i64 (orI xs) ∧ H = H' ∧ N = N') := by
  obtain ⟨p, k, cap, rfl, hkc, hl, hp⟩ := hv.out U
  simp only [ints_length, Nat.mul_one] at hl
  subst hl
  refine spa U pf_59 (m := 18) rfl rfl (by simp) fun hBN hlt => ?_
  obtain ⟨J, hJ⟩ := Has.ex (T := argsT #[(.slice p xs.length cap)]) (l := [(0, (.slice p xs.length cap))]) ⟨rfl, trivial⟩
  rw [hJ]; clear hJ
  repeat refine wq U ?_
  refine wg U ?_
  refine wr U ((ra U).to (v' := (.int .i64 0)) rfl) rfl rfl ?_
  refine wz U ?_
  repeat refine wq U ?_
  refine wg U ?_
  refine wr U ((ra U).to (v' := (.int .i64 0)) rfl) rfl rfl ?_
  refine wz U ?_
  repeat refine wq U ?_
  refine wg U ?_
  refine wr U ((rm U).to (v' := (.slice p xs.length cap)) rfl) rfl rfl ?_
  refine wr U ((rd_len' U sl_26 rfl).to (v' := (.int .i64 ((xs.length : Nat) : Int))) rfl) rfl rfl ?_
  refine wr U ((rm U).to (v' := (.int .i64 0)) rfl) rfl rfl ?_
  refine wz U ?_
  repeat refine wq U ?_
  refine wc_block U ?_
  refine wc_loop U (fun m T H' N' => ∃ k : Nat, k ≤ xs.length ∧ m = xs.length - k ∧ orI (xs.drop k) = orI xs ∧ Has T [(3, (.int .i64 0)), (6, (.slice p xs.length cap)), (7, (.int .i64 ((xs.length : Nat) : Int))), (8, (.int .i64 ((k : Nat) : Int)))] ∧ H = H' ∧ N = N') xs.length ⟨0, Nat.zero_le _, rfl, rfl, ⟨rfl, rfl, rfl, rfl, trivial⟩, rfl, rfl⟩ ?_
  rintro m T _ _ ⟨k, hk, rfl, ho, hT, rfl, rfl⟩
  obtain ⟨J, rfl⟩ := hT.ex
  repeat refine wq U ?_
  refine wg U ?_
  refine wr U (rd_lss U rfl rfl) rfl rfl ?_
  refine wz U ?_
  repeat refine wq U ?_
  refine wcd U (t := (decide (((k : Nat) : Int) < ((xs.length : Nat) : Int)))) rfl (fun hc => ?_) fun hc => ?_
  · replace hc := of_decide_eq_true hc
    refine wsk U ?_
    repeat (first|refine nt ?_|refine nq ?_)
    have hk' : k < xs.length := by omega
    obtain ⟨b, off, rfl⟩ := hp (by omega)
    repeat refine wq U ?_
    refine wc_block U ?_
    repeat refine wq U ?_
    refine wg U ?_
    refine wr U (rd_idx1 U (j := k) sl_26 rfl rfl (by omega)) rfl rfl ?_
    refine wr U (rl1 U el_3 rfl (v := (.int .i64 (xs[k]))) (hv.get U (ints_get hk'))) rfl rfl ?_
    refine wr U ((ra U).to (v' := (.int .i64 (xs[k]))) rfl) rfl rfl ?_
    refine wz U ?_
    repeat refine wq U ?_
    refine wg U ?_
    refine wr U ((rm U).to (v' := (.int .i64 (xs[k]))) rfl) rfl rfl ?_
    refine wr U ((rm U).to (v' := (.int .i64 0)) rfl) rfl rfl ?_
    refine wr U (rd_neq U rfl rfl) rfl rfl ?_
    refine wz U ?_
    repeat refine wq U ?_
    refine wcd U (t := (decide (xs[k] ≠ 0))) rfl (fun hne => ?_) fun hne => ?_
    · replace hne := of_decide_eq_true hne
      repeat refine wq U ?_
      refine wg U ?_
      refine wr U ((rm U).to (v' := (.int .i64 (xs[k]))) rfl) rfl rfl ?_
      refine wr U ((ra U).to (v' := (.int .i64 (xs[k]))) rfl) rfl rfl ?_
      refine wz U ?_
      refine wc_ret U ?_
      repeat (first|refine ret1 ?_|refine ret2 ?_)
      exact end1 U (.inl rfl) rfl (v := (.int .i64 (xs[k]))) rfl ⟨by rw [← ho, orI, List.drop_eq_getElem_cons hk', List.find?_cons_of_pos (by simpa using hne)]; rfl, rfl, rfl⟩
    · replace hne := of_decide_eq_false hne
      refine wsk U ?_
      repeat (first|refine nt ?_|refine nq ?_)
      repeat refine wq U ?_
      refine wg U ?_
      refine wr U (rd_add U rfl rfl (by omega) (by omega)) rfl rfl ?_
      refine wr U ((rm U).to (v' := (.int .i64 (((k : Nat) : Int) + 1))) rfl) rfl rfl ?_
      refine wz U ?_
      repeat (first|refine nt ?_|refine nq ?_)
      refine ⟨xs.length - (k + 1), by omega, k + 1, hk', rfl, ?_, ⟨rfl, rfl, rfl, rfl, trivial⟩, rfl, rfl⟩
      rw [← ho, orI, orI, List.drop_eq_getElem_cons hk', List.find?_cons_of_neg (by simpa using hne)]
  · replace hc := of_decide_eq_false hc
    refine wc_exit U ?_
    repeat (first|refine xt ?_|refine xps (by decide) ?_)
    refine xbl ?_
    repeat (first|refine nt ?_|refine nq ?_)
    repeat refine wq U ?_
    refine wg U ?_
    refine wr U ((rm U).to (v' := (.int .i64 0)) rfl) rfl rfl ?_
    refine wr U ((ra U).to (v' := (.int .i64 0)) rfl) rfl rfl ?_
    refine wz U ?_
    refine wc_ret U ?_
    repeat (first|refine ret1 ?_|refine ret2 ?_)
    exact end1 U (.inl rfl) rfl (v := (.int .i64 0)) rfl ⟨by rw [← ho, List.drop_eq_nil_of_le (by omega)]; rfl, rfl, rfl⟩
end Go.Proofs.YtdmodppoellbkaaGreat
namespace Go.Proofs.YtdmodppoellbkaaGreat
open Go Go.RowKit
variable (U : Cx)
/-- An edge: its ends, its weight. -/
abbrev Ed := Int × Int × Int
def eV (e : Ed) : Value := .agg #[.int .i64 e.1, .int .i64 e.2.1, .int .i64 e.2.2]
def ecs : List Ed → List Value
  | [] => []
  | e :: l => .int .i64 e.1 :: .int .i64 e.2.1 :: .int .i64 e.2.2 :: ecs l
theorem ecs_length (l : List Ed) : (ecs l).length = l.length * 3 := by
  induction l with
  | nil => rfl
  | cons e l ih => simp only [ecs, List.length_cons, ih]; omega
theorem ecs_get (l : List Ed) : ∀ {j : Nat} (h : j < l.length), (ecs l)[j * 3]? = some (.int .i64 l[j].1) ∧ (ecs l)[j * 3 + 1]? = some (.int .i64 l[j].2.1) ∧ (ecs l)[j * 3 + 2]? = some (.int .i64 l[j].2.2) := by
  induction l with
  | nil => intro j h; simp at h
  | cons e l ih =>
    intro j h
    cases j with
    | zero => simp [ecs]
    | succ j =>
      have := ih (j := j) (by simpa using h)
      rw [show (j + 1) * 3 = j * 3 + 3 by omega]
      simp only [ecs, List.getElem_cons_succ]
      exact this
def cmpE (a b : Ed) : Int := orI [cmpI a.1 b.1, cmpI a.2.1 b.2.1]
def cmpD (a b : Int × Int) : Int := orI [cmpI a.1 b.1, cmpI a.2 b.2]
def dV (d : Int × Int) : Value := .agg #[.int .i64 d.1, .int .i64 d.2]
theorem s42 (a b : Ed) (H : Hp) (N : Nat) : Spec U 42 #[(.agg #[(.int .i64 a.1), (.int .i64 a.2.1), (.int .i64 a.2.2)]), (.agg #[(.int .i64 b.1), (.int .i64 b.2.1), (.int .i64 b.2.2)])] H N (fun v H' N' => v = .int .i64 (cmpE a b) ∧ Sub H H' ∧ N ≤ N') := by
  refine spa U pf_42 (m := 17) rfl rfl (by simp) fun hBN hlt => ?_
  obtain ⟨J, hJ⟩ := Has.ex (T := argsT #[(.agg #[(.int .i64 a.1), (.int .i64 a.2.1), (.int .i64 a.2.2)]), (.agg #[(.int .i64 b.1), (.int .i64 b.2.1), (.int .i64 b.2.2)])]) (l := [(0, (.agg #[(.int .i64 a.1), (.int .i64 a.2.1), (.int .i64 a.2.2)])), (1, (.agg #[(.int .i64 b.1), (.int .i64 b.2.1), (.int .i64 b.2.2)]))]) ⟨rfl, rfl, trivial⟩
  rw [hJ]; clear hJ
  repeat refine wq U ?_
  refine wg U ?_
  refine wl_op U rfl rfl (op_box U rfl rfl ?_)
  refine wl_op U rfl rfl (op_box U rfl rfl ?_)
  refine wr U ((ra U).to (v' := (.int .i64 0)) rfl) rfl rfl ?_
  refine wz U ?_
  obtain ⟨R, hR⟩ : ∃ R, hset (hset H N (.row 43 0 [(.int .i64 a.1), (.int .i64 a.2.1), (.int .i64 a.2.2)] 3)) (N + 1) (.row 43 0 [(.int .i64 b.1), (.int .i64 b.2.1), (.int .i64 b.2.2)] 3) = R := ⟨_, rfl⟩
  change WC U _ _ _ (hset (hset H N (.row 43 0 [(.int .i64 a.1), (.int .i64 a.2.1), (.int .i64 a.2.2)] 3)) (N + 1) (.row 43 0 [(.int .i64 b.1), (.int .i64 b.2.1), (.int .i64 b.2.2)] 3)) (N + 2) _
  rw [hR]
  have hlR : ∀ b o, R b = some o → U.B ≤ b ∧ b < N + 2 := by
    intro b o e; rw [← hR] at e; unfold hset at e
    by_cases h1 : b = N + 1
    · omega
    · rw [if_neg h1] at e
      by_cases h2 : b = N
      · omega
      · rw [if_neg h2] at e; have := hlt b o e; omega
  have hr0 : R N = some (.row 43 0 [(.int .i64 a.1), (.int .i64 a.2.1), (.int .i64 a.2.2)] 3) := by rw [← hR, hsn (by omega), hsy]
  have hr1 : R (N + 1) = some (.row 43 0 [(.int .i64 b.1), (.int .i64 b.2.1), (.int .i64 b.2.2)] 3) := by rw [← hR, hsy]
  have hs : Sub H R := by rw [← hR]; exact ((Sub.refl H).hset (fresh hlt (Nat.le_refl _))).hset (fresh hlt (by omega))
  repeat refine wq U ?_
  refine wc_draw U R mixed ?_
  refine wh_rd U 0 rfl ((rfa U fb_43_0 rfl).to (v' := (.pointer (some ⟨N, 0, none⟩))) rfl) (by kernel_rfl) (by kernel_rfl) (by kernel_rfl) rfl rfl (Sub.refl R) ?_
  refine wh_rd U 1 rfl (rl1 U el_3 rfl (v := (.int .i64 a.1)) (by rw [rrw U (by omega) hr0]; rfl)) (by kernel_rfl) (by kernel_rfl) (by kernel_rfl) rfl rfl (Sub.refl R) ?_
  refine wh_rd U 2 rfl ((rfa U fb_43_0 rfl).to (v' := (.pointer (some ⟨(N + 1), 0, none⟩))) rfl) (by kernel_rfl) (by kernel_rfl) (by kernel_rfl) rfl rfl (Sub.refl R) ?_
  refine wh_rd U 3 rfl (rl1 U el_3 rfl (v := (.int .i64 b.1)) (by rw [rrw U (by omega) hr1]; rfl)) (by kernel_rfl) (by kernel_rfl) (by kernel_rfl) rfl rfl (Sub.refl R) ?_
  refine wh_rd U 5 rfl ((rfa U fb_43_1 rfl).to (v' := (.pointer (some ⟨N, 1, none⟩))) rfl) (by kernel_rfl) (by kernel_rfl) (by kernel_rfl) rfl rfl (Sub.refl R) ?_
  refine wh_rd U 6 rfl (rl1 U el_3 rfl (v := (.int .i64 a.2.1)) (by rw [rrw U (by omega) hr0]; rfl)) (by kernel_rfl) (by kernel_rfl) (by kernel_rfl) rfl rfl (Sub.refl R) ?_
  refine wh_rd U 7 rfl ((rfa U fb_43_1 rfl).to (v' := (.pointer (some ⟨(N + 1), 1, none⟩))) rfl) (by kernel_rfl) (by kernel_rfl) (by kernel_rfl) rfl rfl (Sub.refl R) ?_
  refine wh_rd U 8 rfl (rl1 U el_3 rfl (v := (.int .i64 b.2.1)) (by rw [rrw U (by omega) hr1]; rfl)) (by kernel_rfl) (by kernel_rfl) (by kernel_rfl) rfl rfl (Sub.refl R) ?_
  refine wh_op U 4 (by kernel_rfl) rfl rfl rfl (op_call U Tryz.f60 rfl rfl pf_60 (by kernel_rfl) (by kernel_rfl) ((s60 U a.1 b.1 R (N + 2)).mono U ?_))
  rintro _ _ _ ⟨rfl, rfl, rfl⟩
  refine ⟨(Sub.refl R), ?_⟩
  refine wh_op U 9 (by kernel_rfl) rfl rfl rfl (op_call U Tryz.f60 rfl rfl pf_60 (by kernel_rfl) (by kernel_rfl) ((s60 U a.2.1 b.2.1 R (N + 2)).mono U ?_))
  rintro _ _ _ ⟨rfl, rfl, rfl⟩
  refine ⟨(Sub.refl R), ?_⟩
  refine wh_op U 10 (by kernel_rfl) rfl rfl rfl (op_bs U sl_26 rfl (by decide) (by decide) [(.int .i64 (cmpI a.1 b.1)), (.int .i64 (cmpI a.2.1 b.2.1))] rfl (by simp [Value.cells]) rfl (cs := [(.int .i64 (cmpI a.1 b.1)), (.int .i64 (cmpI a.2.1 b.2.1))]) rfl ⟨(Sub.refl R).hset (fresh hlR (Nat.le_refl _)), ?_⟩)
  refine wh_op U 11 (by kernel_rfl) rfl rfl rfl (op_call U Tryz.f59 rfl rfl pf_59 (by kernel_rfl) (by kernel_rfl) ((s59 U _ [cmpI a.1 b.1, cmpI a.2.1 b.2.1] _ _ (by simp) ⟨_, 2, 2, rfl, by omega, rfl, fun _ => ⟨N + 2, 0, rfl, fun j u hu => by rw [rhq U (by omega), if_pos (by omega)]; simpa [ints] using hu⟩⟩).mono U ?_))
  rintro _ _ _ ⟨rfl, rfl, rfl⟩
  refine ⟨((Sub.refl R).hset (fresh hlR (Nat.le_refl _))), ?_⟩
  refine wh_rd U 12 rfl ((ra U).to (v' := (.int .i64 (orI [cmpI a.1 b.1, cmpI a.2.1 b.2.1]))) rfl) (by kernel_rfl) (by kernel_rfl) (by kernel_rfl) rfl rfl ((Sub.refl R).hset (fresh hlR (Nat.le_refl _))) ?_
  refine wh_done U (by kernel_rfl) ?_
  refine wc_ret U ?_
  repeat (first|refine ret1 ?_|refine ret2 ?_)
  exact end1 U (.inl rfl) rfl (v := (.int .i64 (orI [cmpI a.1 b.1, cmpI a.2.1 b.2.1]))) rfl ⟨rfl, hs.trans ((Sub.refl R).hset (fresh hlR (Nat.le_refl _))), by omega⟩
theorem s79 (a b : Int × Int) (H : Hp) (N : Nat) : Spec U 79 #[(.agg #[(.int .i64 a.1), (.int .i64 a.2)]), (.agg #[(.int .i64 b.1), (.int .i64 b.2)])] H N (fun v H' N' => v = .int .i64 (cmpD a b) ∧ Sub H H' ∧ N ≤ N') := by
  refine spa U pf_79 (m := 17) rfl rfl (by simp) fun hBN hlt => ?_
  obtain ⟨J, hJ⟩ := Has.ex (T := argsT #[(.agg #[(.int .i64 a.1), (.int .i64 a.2)]), (.agg #[(.int .i64 b.1), (.int .i64 b.2)])]) (l := [(0, (.agg #[(.int .i64 a.1), (.int .i64 a.2)])), (1, (.agg #[(.int .i64 b.1), (.int .i64 b.2)]))]) ⟨rfl, rfl, trivial⟩
  rw [hJ]; clear hJ
  repeat refine wq U ?_
  refine wg U ?_
  refine wl_op U rfl rfl (op_box U rfl rfl ?_)
  refine wl_op U rfl rfl (op_box U rfl rfl ?_)
  refine wr U ((ra U).to (v' := (.int .i64 0)) rfl) rfl rfl ?_
  refine wz U ?_
  obtain ⟨R, hR⟩ : ∃ R, hset (hset H N (.row 56 0 [(.int .i64 a.1), (.int .i64 a.2)] 2)) (N + 1) (.row 56 0 [(.int .i64 b.1), (.int .i64 b.2)] 2) = R := ⟨_, rfl⟩
  change WC U _ _ _ (hset (hset H N (.row 56 0 [(.int .i64 a.1), (.int .i64 a.2)] 2)) (N + 1) (.row 56 0 [(.int .i64 b.1), (.int .i64 b.2)] 2)) (N + 2) _
  rw [hR]
  have hlR : ∀ b o, R b = some o → U.B ≤ b ∧ b < N + 2 := by
    intro b o e; rw [← hR] at e; unfold hset at e
    by_cases h1 : b = N + 1
    · omega
    · rw [if_neg h1] at e
      by_cases h2 : b = N
      · omega
      · rw [if_neg h2] at e; have := hlt b o e; omega
  have hr0 : R N = some (.row 56 0 [(.int .i64 a.1), (.int .i64 a.2)] 2) := by rw [← hR, hsn (by omega), hsy]
  have hr1 : R (N + 1) = some (.row 56 0 [(.int .i64 b.1), (.int .i64 b.2)] 2) := by rw [← hR, hsy]
  have hs : Sub H R := by rw [← hR]; exact ((Sub.refl H).hset (fresh hlt (Nat.le_refl _))).hset (fresh hlt (by omega))
  repeat refine wq U ?_
  refine wc_draw U R mixed ?_
  refine wh_rd U 0 rfl ((rfa U fb_56_0 rfl).to (v' := (.pointer (some ⟨N, 0, none⟩))) rfl) (by kernel_rfl) (by kernel_rfl) (by kernel_rfl) rfl rfl (Sub.refl R) ?_
  refine wh_rd U 1 rfl (rl1 U el_3 rfl (v := (.int .i64 a.1)) (by rw [rrw U (by omega) hr0]; rfl)) (by kernel_rfl) (by kernel_rfl) (by kernel_rfl) rfl rfl (Sub.refl R) ?_
  refine wh_rd U 2 rfl ((rfa U fb_56_0 rfl).to (v' := (.pointer (some ⟨(N + 1), 0, none⟩))) rfl) (by kernel_rfl) (by kernel_rfl) (by kernel_rfl) rfl rfl (Sub.refl R) ?_
  refine wh_rd U 3 rfl (rl1 U el_3 rfl (v := (.int .i64 b.1)) (by rw [rrw U (by omega) hr1]; rfl)) (by kernel_rfl) (by kernel_rfl) (by kernel_rfl) rfl rfl (Sub.refl R) ?_
  refine wh_rd U 5 rfl ((rfa U fb_56_1 rfl).to (v' := (.pointer (some ⟨N, 1, none⟩))) rfl) (by kernel_rfl) (by kernel_rfl) (by kernel_rfl) rfl rfl (Sub.refl R) ?_
  refine wh_rd U 6 rfl (rl1 U el_3 rfl (v := (.int .i64 a.2)) (by rw [rrw U (by omega) hr0]; rfl)) (by kernel_rfl) (by kernel_rfl) (by kernel_rfl) rfl rfl (Sub.refl R) ?_
  refine wh_rd U 7 rfl ((rfa U fb_56_1 rfl).to (v' := (.pointer (some ⟨(N + 1), 1, none⟩))) rfl) (by kernel_rfl) (by kernel_rfl) (by kernel_rfl) rfl rfl (Sub.refl R) ?_
  refine wh_rd U 8 rfl (rl1 U el_3 rfl (v := (.int .i64 b.2)) (by rw [rrw U (by omega) hr1]; rfl)) (by kernel_rfl) (by kernel_rfl) (by kernel_rfl) rfl rfl (Sub.refl R) ?_
  refine wh_op U 4 (by kernel_rfl) rfl rfl rfl (op_call U Tryz.f60 rfl rfl pf_60 (by kernel_rfl) (by kernel_rfl) ((s60 U a.1 b.1 R (N + 2)).mono U ?_))
  rintro _ _ _ ⟨rfl, rfl, rfl⟩
  refine ⟨(Sub.refl R), ?_⟩
  refine wh_op U 9 (by kernel_rfl) rfl rfl rfl (op_call U Tryz.f60 rfl rfl pf_60 (by kernel_rfl) (by kernel_rfl) ((s60 U a.2 b.2 R (N + 2)).mono U ?_))
  rintro _ _ _ ⟨rfl, rfl, rfl⟩
  refine ⟨(Sub.refl R), ?_⟩
  refine wh_op U 10 (by kernel_rfl) rfl rfl rfl (op_bs U sl_26 rfl (by decide) (by decide) [(.int .i64 (cmpI a.1 b.1)), (.int .i64 (cmpI a.2 b.2))] rfl (by simp [Value.cells]) rfl (cs := [(.int .i64 (cmpI a.1 b.1)), (.int .i64 (cmpI a.2 b.2))]) rfl ⟨(Sub.refl R).hset (fresh hlR (Nat.le_refl _)), ?_⟩)
  refine wh_op U 11 (by kernel_rfl) rfl rfl rfl (op_call U Tryz.f59 rfl rfl pf_59 (by kernel_rfl) (by kernel_rfl) ((s59 U _ [cmpI a.1 b.1, cmpI a.2 b.2] _ _ (by simp) ⟨_, 2, 2, rfl, by omega, rfl, fun _ => ⟨N + 2, 0, rfl, fun j u hu => by rw [rhq U (by omega), if_pos (by omega)]; simpa [ints] using hu⟩⟩).mono U ?_))
  rintro _ _ _ ⟨rfl, rfl, rfl⟩
  refine ⟨((Sub.refl R).hset (fresh hlR (Nat.le_refl _))), ?_⟩
  refine wh_rd U 12 rfl ((ra U).to (v' := (.int .i64 (orI [cmpI a.1 b.1, cmpI a.2 b.2]))) rfl) (by kernel_rfl) (by kernel_rfl) (by kernel_rfl) rfl rfl ((Sub.refl R).hset (fresh hlR (Nat.le_refl _))) ?_
  refine wh_done U (by kernel_rfl) ?_
  refine wc_ret U ?_
  repeat (first|refine ret1 ?_|refine ret2 ?_)
  exact end1 U (.inl rfl) rfl (v := (.int .i64 (orI [cmpI a.1 b.1, cmpI a.2 b.2]))) rfl ⟨rfl, hs.trans ((Sub.refl R).hset (fresh hlR (Nat.le_refl _))), by omega⟩
end Go.Proofs.YtdmodppoellbkaaGreat
namespace Go.Proofs.YtdmodppoellbkaaGreat
open Go Go.RowKit
variable (U : Cx)
theorem one1 {a : Value} (h : a.oneCell' = true) : ∀ u ∈ [a], u.oneCell' = true := by intro u hu; simp only [List.mem_singleton] at hu; subst hu; exact h
theorem one2 {a b : Value} (h : a.oneCell' = true) (h' : b.oneCell' = true) : ∀ u ∈ [a, b], u.oneCell' = true := by
  intro u hu; simp only [List.mem_cons, List.not_mem_nil, or_false] at hu; rcases hu with rfl | rfl <;> assumption
theorem one3 {a b c : Value} (h : a.oneCell' = true) (h' : b.oneCell' = true) (h'' : c.oneCell' = true) : ∀ u ∈ [a, b, c], u.oneCell' = true := by
  intro u hu; simp only [List.mem_cons, List.not_mem_nil, or_false] at hu; rcases hu with rfl | rfl | rfl <;> assumption
/-- An edge of a graph that is right: its ends, its weight. -/
abbrev NE := Nat × Nat × Int
def nV (x : Nat) : Value := .int .i64 (x : Int)
def nats (xs : List Nat) : List Value := xs.map fun x => .int .i64 ((x : Nat) : Int)
def necs : List NE → List Value
  | [] => []
  | e :: l => .int .i64 ((e.1 : Nat) : Int) :: .int .i64 ((e.2.1 : Nat) : Int) :: .int .i64 e.2.2 :: necs l
theorem nats_length (xs : List Nat) : (nats xs).length = xs.length := by simp [nats]
theorem nats_get {xs : List Nat} {j : Nat} (h : j < xs.length) : (nats xs)[j]? = some (.int .i64 ((xs[j] : Nat) : Int)) := by simp [nats, h]
theorem nats_append (xs ys : List Nat) : nats (xs ++ ys) = nats xs ++ nats ys := by simp [nats]
theorem nats_one (xs : List Nat) : ∀ u ∈ nats xs, u.oneCell' = true := by intro u hu; simp only [nats, List.mem_map] at hu; obtain ⟨x, _, rfl⟩ := hu; rfl
theorem necs_length (l : List NE) : (necs l).length = l.length * 3 := by
  induction l with
  | nil => rfl
  | cons e l ih => simp only [necs, List.length_cons, ih]; omega
theorem necs_append (l m : List NE) : necs (l ++ m) = necs l ++ necs m := by
  induction l with
  | nil => rfl
  | cons e l ih => simp [necs, ih]
theorem necs_one (l : List NE) : ∀ u ∈ necs l, u.oneCell' = true := by
  induction l with
  | nil => intro u hu; simp [necs] at hu
  | cons e l ih => intro u hu; simp only [necs, List.mem_cons] at hu; rcases hu with rfl | rfl | rfl | hu <;> first|rfl | exact ih u hu
theorem necs_get (l : List NE) : ∀ {j : Nat} (h : j < l.length), (necs l)[j * 3]? = some (.int .i64 ((l[j].1 : Nat) : Int)) ∧ (necs l)[j * 3 + 1]? = some (.int .i64 ((l[j].2.1 : Nat) : Int)) ∧ (necs l)[j * 3 + 2]? = some (.int .i64 l[j].2.2) := by
  induction l with
  | nil => intro j h; simp at h
  | cons e l ih =>
    intro j h
    cases j with
    | zero => simp [necs]
    | succ j =>
      have := ih (j := j) (by simpa using h)
      rw [show (j + 1) * 3 = j * 3 + 3 by omega]
      simp only [necs, List.getElem_cons_succ]
      exact this
theorem RdS.e0 {F : Hp} {b off k cap : Nat} {l : List NE} (h : RdS U F (.slice (some ⟨b, off, none⟩) k cap) 3 (necs l)) {j : Nat} (hj : j < l.length) : rd U F b (off + j * 3) = some (.int .i64 ((l[j].1 : Nat) : Int)) := h.get U (necs_get l hj).1
theorem RdS.e1 {F : Hp} {b off k cap : Nat} {l : List NE} (h : RdS U F (.slice (some ⟨b, off, none⟩) k cap) 3 (necs l)) {j : Nat} (hj : j < l.length) : rd U F b (off + j * 3 + 1) = some (.int .i64 ((l[j].2.1 : Nat) : Int)) := h.get U (necs_get l hj).2.1
theorem RdS.e2 {F : Hp} {b off k cap : Nat} {l : List NE} (h : RdS U F (.slice (some ⟨b, off, none⟩) k cap) 3 (necs l)) {j : Nat} (hj : j < l.length) : rd U F b (off + j * 3 + 2) = some (.int .i64 l[j].2.2) := h.get U (necs_get l hj).2.2
theorem RdS.n0 {F : Hp} {b off k cap : Nat} {l : List Nat} (h : RdS U F (.slice (some ⟨b, off, none⟩) k cap) 1 (nats l)) {j : Nat} (hj : j < l.length) : rd U F b (off + j) = some (.int .i64 ((l[j] : Nat) : Int)) := h.get U (nats_get hj)
/-- A list of edges in memory, opened. -/
theorem RdS.edges {F : Hp} {v : Value} {l : List NE} (h : RdS U F v 3 (necs l)) : ∃ p cap, v = .slice p l.length cap ∧ l.length ≤ cap ∧ (0 < l.length → ∃ b off, p = some ⟨b, off, none⟩) := by
  obtain ⟨p, k, cap, rfl, hkc, hl, hp⟩ := h.out U
  rw [necs_length] at hl
  obtain rfl : l.length = k := by omega
  exact ⟨p, cap, rfl, hkc, hp⟩
theorem RdS.nums {F : Hp} {v : Value} {l : List Nat} (h : RdS U F v 1 (nats l)) : ∃ p cap, v = .slice p l.length cap ∧ l.length ≤ cap ∧ (0 < l.length → ∃ b off, p = some ⟨b, off, none⟩) := by
  obtain ⟨p, k, cap, rfl, hkc, hl, hp⟩ := h.out U
  rw [nats_length] at hl
  obtain rfl : l.length = k := by omega
  exact ⟨p, cap, rfl, hkc, hp⟩
theorem RdS.cells1 {F : Hp} {v : Value} {cs : List Value} (h : RdS U F v 1 cs) : ∃ p cap, v = .slice p cs.length cap ∧ cs.length ≤ cap ∧ (0 < cs.length → ∃ b off, p = some ⟨b, off, none⟩) := by
  obtain ⟨p, k, cap, rfl, hkc, hl, hp⟩ := h.out U
  obtain rfl : cs.length = k := by omega
  exact ⟨p, cap, rfl, hkc, hp⟩
def ltE (a b : NE) : Prop := a.1 < b.1 ∨ (a.1 = b.1 ∧ a.2.1 < b.2.1)
/-- A graph that is right, and not too great. -/
structure GOk (n : Nat) (E : List NE) : Prop where
  hn : n ≤ 64
  hm : E.length ≤ 1000
  he : ∀ e ∈ E, e.1 < e.2.1 ∧ e.2.1 < n ∧ -2147483648 < e.2.2 ∧ e.2.2 < 2147483648
  hs : E.Pairwise ltE
theorem GOk.at {n : Nat} {E : List NE} (h : GOk n E) {k : Nat} (hk : k < E.length) : E[k].1 < E[k].2.1 ∧ E[k].2.1 < n ∧ -2147483648 < E[k].2.2 ∧ E[k].2.2 < 2147483648 := h.he _ (List.getElem_mem hk)
def nE (e : NE) : Ed := (((e.1 : Nat) : Int), ((e.2.1 : Nat) : Int), e.2.2)
theorem cmpE_lt {a b : NE} (h : ltE a b) : cmpE (nE a) (nE b) = -1 := by
  have e1 : (a.1 : Int) < b.1 ∨ ((a.1 : Int) = b.1 ∧ (a.2.1 : Int) < b.2.1) := by unfold ltE at h; omega
  unfold cmpE nE cmpI orI
  rcases e1 with h | ⟨h, h'⟩
  · simp [h]
  · simp [h, h']
theorem cmpE_gt {a b : NE} (h : ltE b a) : cmpE (nE a) (nE b) = 1 := by
  have e1 : (b.1 : Int) < a.1 ∨ ((a.1 : Int) = b.1 ∧ (b.2.1 : Int) < a.2.1) := by unfold ltE at h; omega
  unfold cmpE nE cmpI orI
  rcases e1 with h | ⟨h, h'⟩
  · have : ¬ (a.1 : Int) < b.1 := by omega
    simp [h, this]
  · have : ¬ (a.2.1 : Int) < b.2.1 := by omega
    simp [h, h', this]
/-- What is known of some blocks. -/
def ofl : List (Nat × Blk) → Hp
  | [] => nothing
  | (b, o) :: l => hset (ofl l) b o
theorem sub_ofl {l : List (Nat × Blk)} {H : Hp} (h : ∀ p ∈ l, H p.1 = some p.2) : Sub (ofl l) H := by
  induction l with
  | nil => exact nothing_sub
  | cons p l ih =>
    obtain ⟨b, o⟩ := p
    intro c o' hc
    by_cases hcb : c = b
    · subst hcb; rw [show ofl ((c, o) :: l) = hset (ofl l) c o from rfl, hsy] at hc; cases hc; exact h (c, o) (by simp)
    · rw [show ofl ((b, o) :: l) = hset (ofl l) b o from rfl, hsn hcb] at hc; exact ih (fun p hp => h p (by simp [hp])) c o' hc
/-- What is known from a block on. -/
def from_ (M : Nat) (H : Hp) : Hp := fun b => if M ≤ b then H b else none
theorem from_sub {M : Nat} {H : Hp} : Sub (from_ M H) H := by intro b o h; unfold from_ at h; split at h <;> first|exact h | cases h
theorem from_at {M b : Nat} {H : Hp} (h : M ≤ b) : from_ M H b = H b := by simp [from_, h]
/-- Before a part of the code: memory told by what is needed of it. -/
theorem wc_gen {n : Nat} {T : Tm} {H : Hp} {N : Nat} {c : Code} {Q : Post} (p : Hp → Prop) (h : p H) (k : ∀ H1, p H1 → U.B ≤ N → (∀ b o, H1 b = some o → U.B ≤ b ∧ b < N) → WC U n c T H1 N Q) : WC U n c T H N Q :=
  wc_own U fun h1 h2 => k H h h1 h2
end Go.Proofs.YtdmodppoellbkaaGreat
namespace Go.Proofs.YtdmodppoellbkaaGreat
open Go Go.RowKit
variable (U : Cx)
theorem s32 (n : Nat) (E : List NE) (sv : Value) (hg : GOk n E) (H : Hp) (N : Nat) (hv : RdS U H sv 3 (necs E)) : Spec U 32 #[(.agg #[(.int .i64 ((n : Nat) : Int)), sv])] H N (fun v H' N' => v = .int .i64 0 ∧ Sub H H' ∧ N ≤ N') := by
  obtain ⟨p, cap, rfl, hc, hp⟩ := hv.edges U
  refine spa U pf_32 (m := 54) rfl rfl (by simp) fun hBN hlt => ?_
  obtain ⟨J, hJ⟩ := Has.ex (T := argsT #[(.agg #[(.int .i64 ((n : Nat) : Int)), (.slice p E.length cap)])]) (l := [(0, (.agg #[(.int .i64 ((n : Nat) : Int)), (.slice p E.length cap)]))]) ⟨rfl, trivial⟩
  rw [hJ]; clear hJ
  have hn64 := hg.hn; have hm := hg.hm
  repeat (first|refine nt ?_|refine nq ?_|refine wq U ?_)
  refine wg U ?_
  refine wl_op U rfl rfl (op_box U rfl rfl ?_)
  refine wr U ((ra U).to (v' := (.int .i64 0)) rfl) rfl rfl ?_
  refine wz U ?_
  repeat (first|refine nt ?_|refine nq ?_|refine wq U ?_)
  refine wg U ?_
  refine wr U ((rfa U fb_24_0 rfl).to (v' := (.pointer (some ⟨N, 0, none⟩))) rfl) rfl rfl ?_
  refine wr U (rl1 U el_3 rfl (v := (.int .i64 ((n : Nat) : Int))) (by rw [rhq U (by omega)]; rfl)) rfl rfl ?_
  refine wr U ((rfa U fb_24_1 rfl).to (v' := (.pointer (some ⟨N, 1, none⟩))) rfl) rfl rfl ?_
  refine wr U (rl1 U el_22 rfl (v := (.slice p E.length cap)) (by rw [rhq U (by omega)]; rfl)) rfl rfl ?_
  refine wr U ((rd_len' U sl_22 rfl).to (v' := (.int .i64 ((E.length : Nat) : Int))) rfl) rfl rfl ?_
  refine wl_op U rfl rfl (op_call U Tryz.f38 rfl rfl pf_38 (by kernel_rfl) (by kernel_rfl) ((s38 U n E.length (by omega) (by omega) (by omega) _ _).mono U ?_))
  rintro _ _ _ ⟨rfl, rfl, rfl⟩
  refine wr U ((ra U).to (v' := (.int .i64 0)) rfl) rfl rfl ?_
  refine wz U ?_
  repeat (first|refine nt ?_|refine nq ?_|refine wq U ?_)
  refine wg U ?_
  refine wr U ((rm U).to (v' := (.int .i64 0)) rfl) rfl rfl ?_
  refine wr U (rd_neq U rfl rfl) rfl rfl ?_
  refine wz U ?_
  repeat (first|refine nt ?_|refine nq ?_|refine wq U ?_)
  refine wcd U (t := false) rfl (fun h => nomatch h) fun _ => ?_
  refine wsk U ?_
  repeat (first|refine nt ?_|refine nq ?_|refine wq U ?_)
  refine wg U ?_
  refine wr U ((rfa U fb_24_1 rfl).to (v' := (.pointer (some ⟨N, 1, none⟩))) rfl) rfl rfl ?_
  refine wr U (rl1 U el_22 rfl (v := (.slice p E.length cap)) (by rw [rhq U (by omega)]; rfl)) rfl rfl ?_
  refine wr U ((rd_len' U sl_22 rfl).to (v' := (.int .i64 ((E.length : Nat) : Int))) rfl) rfl rfl ?_
  refine wr U ((rm U).to (v' := (.int .i64 0)) rfl) rfl rfl ?_
  refine wz U ?_
  refine wc_gen U (fun R => R N = some (.row 24 0 [(.int .i64 ((n : Nat) : Int)), (.slice p E.length cap)] 2) ∧ Sub _ R) ⟨(by first|(rw [hsy]; done) | (rw [hsy]; rfl)), ((Sub.refl _).hset (fresh hlt (by omega)))⟩ ?_
  rintro R ⟨hx_1, hs⟩ hBNR hltR
  repeat (first|refine nt ?_|refine nq ?_|refine wq U ?_)
  refine wc_block U ?_
  refine wc_loop U (fun m T H' N' => ∃ k : Nat, k ≤ E.length ∧ m = E.length - k ∧ Has T [(1, (.pointer (some ⟨N, 0, none⟩))), (17, (.slice p E.length cap)), (18, (.int .i64 ((E.length : Nat) : Int))), (19, (.int .i64 ((k : Nat) : Int)))] ∧ Sub R H' ∧ N + 1 ≤ N') E.length ⟨0, Nat.zero_le _, rfl, ⟨rfl, rfl, rfl, rfl, trivial⟩, Sub.refl _, Nat.le_refl _⟩ ?_
  rintro m T H1 N1 ⟨k, hk, rfl, hT, hs1, hN1⟩
  obtain ⟨J, rfl⟩ := hT.ex
  have hx_2 := hs1 N _ hx_1
  have hs_3 := (Sub.refl _).trans hs1
  refine wc_own U fun hBNH1 hltH1 => ?_
  repeat (first|refine nt ?_|refine nq ?_|refine wq U ?_)
  refine wg U ?_
  refine wr U (rd_lss U rfl rfl) rfl rfl ?_
  refine wz U ?_
  repeat (first|refine nt ?_|refine nq ?_|refine wq U ?_)
  refine wcd U (t := (decide (((k : Nat) : Int) < ((E.length : Nat) : Int)))) rfl (fun hc => ?_) fun hc => ?_
  · replace hc := of_decide_eq_true hc
    refine wsk U ?_
    repeat (first|refine nt ?_|refine nq ?_)
    have hk1 : k < E.length := by omega
    obtain ⟨b, off, rfl⟩ := hp (by omega)
    have hv1 := (hv.sub U hs).sub U hs1
    have he := hg.at hk1
    repeat (first|refine nt ?_|refine nq ?_|refine wq U ?_)
    refine wc_block U ?_
    repeat (first|refine nt ?_|refine nq ?_|refine wq U ?_)
    refine wg U ?_
    refine wr U ((rm U).to (v' := (.int .i64 ((k : Nat) : Int))) rfl) rfl rfl ?_
    refine wr U (rd_idxN U (j := k) sl_22 rfl rfl (by omega)) rfl rfl ?_
    refine wr U (rd_load3 U el_43 rfl (v0 := (.int .i64 ((E[k].1 : Nat) : Int))) (v1 := (.int .i64 ((E[k].2.1 : Nat) : Int))) (v2 := (.int .i64 (E[k].2.2)))  (RdS.e0 U hv1 hk1) (RdS.e1 U hv1 hk1) (RdS.e2 U hv1 hk1)) rfl rfl ?_
    refine wl_op U rfl rfl (op_alloc U z_43 rfl ?_)
    refine wr U ((ra U).to (v' := (.int .i64 ((k : Nat) : Int))) rfl) rfl rfl ?_
    refine wl_op0 U rfl (op_store U (vs := [(.int .i64 ((E[k].1 : Nat) : Int)), (.int .i64 ((E[k].2.1 : Nat) : Int)), (.int .i64 (E[k].2.2))]) (cs := [(.int .i64 0), (.int .i64 0), (.int .i64 0)]) el_43 rfl rfl rfl rfl (one3 rfl rfl rfl) (by first|(rw [hsy]; done) | (rw [hsy]; rfl)) (by omega) (by simp) ?_)
    refine wz U ?_
    repeat (first|refine nt ?_|refine nq ?_|refine wq U ?_)
    refine wg U ?_
    refine wr U ((rfa U fb_24_0 rfl).to (v' := (.pointer (some ⟨N, 0, none⟩))) rfl) rfl rfl ?_
    refine wr U (rl1 U el_3 rfl (v := (.int .i64 ((n : Nat) : Int))) (by rw [rhn U (b := N) (c := N1) (by omega), rhn U (b := N) (c := N1) (by omega), rrw U (by omega) hx_2]; rfl)) rfl rfl ?_
    refine wr U (rd_load3 U el_43 rfl (v0 := (.int .i64 ((E[k].1 : Nat) : Int))) (v1 := (.int .i64 ((E[k].2.1 : Nat) : Int))) (v2 := (.int .i64 (E[k].2.2)))  (by rw [rhq U (by omega)]; rfl) (by rw [rhq U (by omega)]; rfl) (by rw [rhq U (by omega)]; rfl)) rfl rfl ?_
    refine wl_op U rfl rfl (op_call U Tryz.f40 rfl rfl pf_40 (by kernel_rfl) (by kernel_rfl) ((s40 U n E[k].1 E[k].2.1 E[k].2.2 (by omega) (by omega) (by omega) (by omega) (by omega) _ _).mono U ?_))
    rintro _ H2 N2 ⟨rfl, hs2, hN2⟩
    have hx_4 := hs2 N _ (by rw [hsn (b := N) (c := N1) (by omega), hsn (b := N) (c := N1) (by omega)]; exact hx_2)
    have hx_5 := hs2 N1 _ (by first|(rw [hsy]; done) | (rw [hsy]; rfl))
    have hs_6 := (((Sub.refl _).hset (fresh hltH1 (by omega))).hset (fresh hltH1 (by omega))).trans hs2
    refine wr U ((ra U).to (v' := (.int .i64 0)) rfl) rfl rfl ?_
    refine wz U ?_
    repeat (first|refine nt ?_|refine nq ?_|refine wq U ?_)
    refine wc_block U ?_
    repeat (first|refine nt ?_|refine nq ?_|refine wq U ?_)
    refine wg U ?_
    refine wr U ((rm U).to (v' := (.int .i64 0)) rfl) rfl rfl ?_
    refine wr U (rd_neq U rfl rfl) rfl rfl ?_
    refine wr U ((ra U).to (v' := (.bool (decide (0 ≠ 0)))) rfl) rfl rfl ?_
    refine wz U ?_
    repeat (first|refine nt ?_|refine nq ?_|refine wq U ?_)
    refine wcd U (t := false) rfl (fun h => nomatch h) fun _ => ?_
    repeat (first|refine nt ?_|refine nq ?_|refine wq U ?_)
    refine wg U ?_
    refine wr U ((rfa U fb_43_0 rfl).to (v' := (.pointer (some ⟨N1, 0, none⟩))) rfl) rfl rfl ?_
    refine wr U (rl1 U el_3 rfl (v := (.int .i64 ((E[k].1 : Nat) : Int))) (by rw [rrw U (by omega) hx_5]; rfl)) rfl rfl ?_
    refine wr U ((rfa U fb_43_1 rfl).to (v' := (.pointer (some ⟨N1, 1, none⟩))) rfl) rfl rfl ?_
    refine wr U (rl1 U el_3 rfl (v := (.int .i64 ((E[k].2.1 : Nat) : Int))) (by rw [rrw U (by omega) hx_5]; rfl)) rfl rfl ?_
    refine wr U ((rd_gtr U rfl rfl).to (v' := (.bool false)) (congrArg Value.bool (decide_eq_false (by omega)))) rfl rfl ?_
    refine wr U ((ra U).to (v' := (.bool false)) rfl) rfl rfl ?_
    refine wz U ?_
    repeat (first|refine nt ?_|refine nq ?_|refine wq U ?_)
    refine wcd U (t := false) rfl (fun h => nomatch h) fun _ => ?_
    repeat (first|refine nt ?_|refine nq ?_|refine wq U ?_)
    refine wg U ?_
    refine wr U ((rm U).to (v' := (.int .i64 ((k : Nat) : Int))) rfl) rfl rfl ?_
    refine wr U (rd_eql U rfl rfl) rfl rfl ?_
    refine wr U ((ra U).to (v' := (.bool (decide (((k : Nat) : Int) = 0)))) rfl) rfl rfl ?_
    refine wz U ?_
    repeat (first|refine nt ?_|refine nq ?_|refine wq U ?_)
    refine wcd U (t := (decide (((k : Nat) : Int) = 0))) rfl (fun hk0 => ?_) fun hk0 => ?_
    · replace hk0 := of_decide_eq_true hk0
      refine wc_exit U ?_
      repeat (first|refine xt ?_|refine xps (by decide) ?_)
      refine xbl ?_
      repeat (first|refine nt ?_|refine nq ?_)
      repeat (first|refine nt ?_|refine nq ?_|refine wq U ?_)
      refine wg U ?_
      refine wr U (rd_add U rfl rfl (by omega) (by omega)) rfl rfl ?_
      refine wr U ((rm U).to (v' := (.int .i64 (((k : Nat) : Int) + 1))) rfl) rfl rfl ?_
      refine wz U ?_
      repeat (first|refine nt ?_|refine nq ?_)
      exact ⟨E.length - (k + 1), by omega, k + 1, by omega, rfl, ⟨rfl, rfl, rfl, rfl, trivial⟩, hs1.trans hs_6, by omega⟩
    · replace hk0 := of_decide_eq_false hk0
      refine wsk U ?_
      repeat (first|refine nt ?_|refine nq ?_)
      have hv2 := hv1.sub U hs_6
      have hk2 : k - 1 < E.length := by omega
      have hlE : ltE E[k-1] E[k] := List.pairwise_iff_getElem.1 hg.hs _ _ hk2 hk1 (by omega)
      repeat (first|refine nt ?_|refine nq ?_|refine wq U ?_)
      refine wc_draw U H2 mixed ?_
      refine wh_rd U 0 rfl ((rfa U fb_24_1 rfl).to (v' := (.pointer (some ⟨N, 1, none⟩))) rfl) (by kernel_rfl) (by kernel_rfl) (by kernel_rfl) rfl rfl (Sub.refl _) ?_
      refine wh_rd U 1 rfl (rl1 U el_22 rfl (v := (.slice (some ⟨b, off, none⟩) E.length cap)) (by rw [rrw U (by omega) hx_4]; rfl)) (by kernel_rfl) (by kernel_rfl) (by kernel_rfl) rfl rfl (Sub.refl _) ?_
      refine wh_rd U 2 rfl ((rm U).to (v' := (.int .i64 ((k : Nat) : Int))) rfl) (by kernel_rfl) (by kernel_rfl) (by kernel_rfl) rfl rfl (Sub.refl _) ?_
      refine wh_rd U 3 rfl (rd_sub' U rfl rfl (by omega) (by omega)) (by kernel_rfl) (by kernel_rfl) (by kernel_rfl) rfl rfl (Sub.refl _) ?_
      refine wh_rd U 4 rfl (rd_idxI U (k-1) sl_22 rfl rfl (by omega) (by omega)) (by kernel_rfl) (by kernel_rfl) (by kernel_rfl) rfl rfl (Sub.refl _) ?_
      refine wh_rd U 5 rfl (rd_load3 U el_43 rfl (v0 := (.int .i64 ((E[k-1].1 : Nat) : Int))) (v1 := (.int .i64 ((E[k-1].2.1 : Nat) : Int))) (v2 := (.int .i64 (E[k-1].2.2)))  (RdS.e0 U hv2 hk2) (RdS.e1 U hv2 hk2) (RdS.e2 U hv2 hk2)) (by kernel_rfl) (by kernel_rfl) (by kernel_rfl) rfl rfl (Sub.refl _) ?_
      refine wh_rd U 6 rfl (rd_load3 U el_43 rfl (v0 := (.int .i64 ((E[k].1 : Nat) : Int))) (v1 := (.int .i64 ((E[k].2.1 : Nat) : Int))) (v2 := (.int .i64 (E[k].2.2)))  (by rw [rrw U (by omega) hx_5]; rfl) (by rw [rrw U (by omega) hx_5]; rfl) (by rw [rrw U (by omega) hx_5]; rfl)) (by kernel_rfl) (by kernel_rfl) (by kernel_rfl) rfl rfl (Sub.refl _) ?_
      refine wh_op U 7 (by kernel_rfl) rfl rfl rfl (op_call U Tryz.f42 rfl rfl pf_42 (by kernel_rfl) (by kernel_rfl) ((s42 U (nE E[k-1]) (nE E[k]) _ _).mono U ?_))
      rintro _ H3 N3 ⟨rfl, hs3, hN3⟩
      refine ⟨hs3, ?_⟩
      have hx_7 := hs3 N _ hx_4
      have hx_8 := hs3 N1 _ hx_5
      have hs_9 := hs_6.trans hs3
      refine wh_done U (by kernel_rfl) ?_
      rw [cmpE_lt hlE]
      repeat (first|refine nt ?_|refine nq ?_|refine wq U ?_)
      refine wc_block U ?_
      repeat (first|refine nt ?_|refine nq ?_|refine wq U ?_)
      refine wg U ?_
      refine wr U (rd_eql U rfl rfl) rfl rfl ?_
      refine wr U ((ra U).to (v' := (.bool (decide (-1 = 0)))) rfl) rfl rfl ?_
      refine wz U ?_
      repeat (first|refine nt ?_|refine nq ?_|refine wq U ?_)
      refine wcd U (t := false) rfl (fun h => nomatch h) fun _ => ?_
      repeat (first|refine nt ?_|refine nq ?_|refine wq U ?_)
      refine wg U ?_
      refine wr U (rd_eql U rfl rfl) rfl rfl ?_
      refine wr U ((ra U).to (v' := (.bool (decide (-1 = 1)))) rfl) rfl rfl ?_
      refine wz U ?_
      repeat (first|refine nt ?_|refine nq ?_|refine wq U ?_)
      refine wcd U (t := false) rfl (fun h => nomatch h) fun _ => ?_
      refine wsk U ?_
      repeat (first|refine nt ?_|refine nq ?_)
      repeat (first|refine nt ?_|refine nq ?_|refine wq U ?_)
      refine wg U ?_
      refine wr U (rd_add U rfl rfl (by omega) (by omega)) rfl rfl ?_
      refine wr U ((rm U).to (v' := (.int .i64 (((k : Nat) : Int) + 1))) rfl) rfl rfl ?_
      refine wz U ?_
      repeat (first|refine nt ?_|refine nq ?_)
      exact ⟨E.length - (k + 1), by omega, k + 1, by omega, rfl, ⟨rfl, rfl, rfl, rfl, trivial⟩, hs1.trans hs_9, by omega⟩
  · replace hc := of_decide_eq_false hc
    refine wc_exit U ?_
    repeat (first|refine xt ?_|refine xps (by decide) ?_)
    refine xbl ?_
    repeat (first|refine nt ?_|refine nq ?_)
    repeat (first|refine nt ?_|refine nq ?_|refine wq U ?_)
    refine wg U ?_
    refine wr U ((ra U).to (v' := (.int .i64 0)) rfl) rfl rfl ?_
    refine wz U ?_
    refine wc_ret U ?_
    repeat (first|refine ret1 ?_|refine ret2 ?_)
    exact end1 U (.inl rfl) rfl (v := (.int .i64 0)) rfl ⟨rfl, hs.trans hs1, by omega⟩
end Go.Proofs.YtdmodppoellbkaaGreat
