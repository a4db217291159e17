/-
Sorting, neighbours, components, levels.
-/
import Derived.Test.YtdmodppoellbkaaGreatM1
import Derived.Shelf.SlGeneric
import Derived.Shelf.Sort.Plain
import Derived.Ground.Names2Prog
import Derived.Ground.SlsfProg
import Derived.Shelf.SlSortCmp.WholeK
import Derived.Shelf.Slices.In.SortNone
import Derived.Test.YtdmodppoellbkaaGreatProg
set_option linter.unusedVariables false
set_option linter.unusedSimpArgs false
namespace Go.Proofs
open Go.Shelf
def Tryz.lays189_ren : Go.Shelf.Ren := ⟨fun | 189 => 22 | 125 => 45 | 257 => 44 | 128 => 74 | 129 => 75 | 294 => 65 | 295 => 66 | 296 => 67 | 297 => 68 | 298 => 69 | 299 => 70 | 216 => 71 | 300 => 72 | 301 => 73 | 328 => 101 | 329 => 102 | 330 => 103 | 331 => 104 | 332 => 105 | 215 => 88 | 343 => 116 | n => n, fun | 28 => 26 | 3 => 3 | 46 => 77 | 0 => 0 | 51 => 120 | 53 => 122 | 4 => 4 | 183 => 113 | 182 => 112 | 131 => 47 | 5 => 5 | 9 => 9 | 218 => 149 | 222 => 153 | 228 => 161 | 229 => 162 | n => n, fun | n => n⟩
theorem Tryz.lays189 : Go.Proofs.Lays.n189 Tryz.prog Tryz.lays189_ren := {
  mixed := by kernel_rfl
  f125 := Tryz.func45.trans (congrArg some (by kernel_rfl))
  f128 := Tryz.func74.trans (congrArg some (by kernel_rfl))
  f129 := Tryz.func75.trans (congrArg some (by kernel_rfl))
  f189 := Tryz.func22.trans (congrArg some (by kernel_rfl))
  f215 := Tryz.func88.trans (congrArg some (by kernel_rfl))
  f216 := Tryz.func71.trans (congrArg some (by kernel_rfl))
  f257 := Tryz.func44.trans (congrArg some (by kernel_rfl))
  f294 := Tryz.func65.trans (congrArg some (by kernel_rfl))
  f295 := Tryz.func66.trans (congrArg some (by kernel_rfl))
  f296 := Tryz.func67.trans (congrArg some (by kernel_rfl))
  f297 := Tryz.func68.trans (congrArg some (by kernel_rfl))
  f298 := Tryz.func69.trans (congrArg some (by kernel_rfl))
  f299 := Tryz.func70.trans (congrArg some (by kernel_rfl))
  f300 := Tryz.func72.trans (congrArg some (by kernel_rfl))
  f301 := Tryz.func73.trans (congrArg some (by kernel_rfl))
  f328 := Tryz.func101.trans (congrArg some (by kernel_rfl))
  f329 := Tryz.func102.trans (congrArg some (by kernel_rfl))
  f330 := Tryz.func103.trans (congrArg some (by kernel_rfl))
  f331 := Tryz.func104.trans (congrArg some (by kernel_rfl))
  f332 := Tryz.func105.trans (congrArg some (by kernel_rfl))
  f343 := Tryz.func116.trans (congrArg some (by kernel_rfl))
  t0 := Tryz.underlying0
  a0 := Tryz.isAgg0
  z0 := Tryz.sizeOf0
  v0 := Tryz.zeroValue0
  t3 := Tryz.underlying3
  a3 := Tryz.isAgg3
  z3 := Tryz.sizeOf3
  v3 := Tryz.zeroValue3
  t4 := Tryz.underlying4
  a4 := Tryz.isAgg4
  z4 := Tryz.sizeOf4
  v4 := Tryz.zeroValue4
  t5 := Tryz.underlying5
  a5 := Tryz.isAgg5
  z5 := Tryz.sizeOf5
  v5 := Tryz.zeroValue5
  t9 := Tryz.underlying9
  a9 := Tryz.isAgg9
  z9 := Tryz.sizeOf9
  v9 := Tryz.zeroValue9
  t28 := Tryz.underlying26
  a28 := Tryz.isAgg26
  z28 := Tryz.sizeOf26
  v28 := Tryz.zeroValue26
  t46 := Tryz.underlying77
  a46 := Tryz.isAgg77
  z46 := Tryz.sizeOf77
  v46 := Tryz.zeroValue77
  t51 := Tryz.underlying120
  a51 := Tryz.isAgg120
  z51 := Tryz.sizeOf120
  v51 := Tryz.zeroValue120
  t53 := Tryz.underlying122
  a53 := Tryz.isAgg122
  z53 := Tryz.sizeOf122
  v53 := Tryz.zeroValue122
  t131 := Tryz.underlying47
  a131 := Tryz.isAgg47
  z131 := Tryz.sizeOf47
  v131 := Tryz.zeroValue47
  t182 := Tryz.underlying112
  a182 := Tryz.isAgg112
  z182 := Tryz.sizeOf112
  v182 := Tryz.zeroValue112
  t183 := Tryz.underlying113
  a183 := Tryz.isAgg113
  z183 := Tryz.sizeOf113
  v183 := Tryz.zeroValue113
  t218 := Tryz.underlying149
  a218 := Tryz.isAgg149
  z218 := Tryz.sizeOf149
  v218 := Tryz.zeroValue149
  t222 := Tryz.underlying153
  a222 := Tryz.isAgg153
  z222 := Tryz.sizeOf153
  v222 := Tryz.zeroValue153
  t228 := Tryz.underlying161
  a228 := Tryz.isAgg161
  z228 := Tryz.sizeOf161
  v228 := Tryz.zeroValue161
  t229 := Tryz.underlying162
  a229 := Tryz.isAgg162
  z229 := Tryz.sizeOf162
  v229 := Tryz.zeroValue162 }
def Tryz.sortE_ren : Go.Shelf.Ren := ⟨fun | 6 => 41 | 15 => 45 | 14 => 58 | 28 => 74 | 29 => 75 | 20 => 80 | 21 => 81 | 22 => 82 | 23 => 83 | 24 => 84 | 25 => 85 | 26 => 86 | 27 => 87 | 46 => 108 | 47 => 102 | 48 => 103 | 49 => 109 | 50 => 110 | 57 => 125 | n => n, fun | 22 => 22 | 24 => 43 | 25 => 73 | 3 => 3 | 39 => 77 | 0 => 0 | 53 => 120 | 55 => 122 | 4 => 4 | 46 => 113 | 45 => 112 | 50 => 47 | 5 => 5 | 9 => 9 | 66 => 149 | 70 => 153 | 76 => 161 | 77 => 162 | n => n, fun | n => n⟩
theorem Tryz.sortE : Go.Proofs.SlLaysF0.n6 Tryz.prog Tryz.sortE_ren := {
  mixed := by kernel_rfl
  f6 := ⟨Tryz.f41.name, by decide, Tryz.func41.trans (congrArg some (by kernel_rfl))⟩
  f14 := ⟨Tryz.f58.name, by decide, Tryz.func58.trans (congrArg some (by kernel_rfl))⟩
  f15 := Tryz.func45.trans (congrArg some (by kernel_rfl))
  f20 := ⟨Tryz.f80.name, by decide, Tryz.func80.trans (congrArg some (by kernel_rfl))⟩
  f21 := ⟨Tryz.f81.name, by decide, Tryz.func81.trans (congrArg some (by kernel_rfl))⟩
  f22 := ⟨Tryz.f82.name, by decide, Tryz.func82.trans (congrArg some (by kernel_rfl))⟩
  f23 := ⟨Tryz.f83.name, by decide, Tryz.func83.trans (congrArg some (by kernel_rfl))⟩
  f24 := ⟨Tryz.f84.name, by decide, Tryz.func84.trans (congrArg some (by kernel_rfl))⟩
  f25 := ⟨Tryz.f85.name, by decide, Tryz.func85.trans (congrArg some (by kernel_rfl))⟩
  f26 := ⟨Tryz.f86.name, by decide, Tryz.func86.trans (congrArg some (by kernel_rfl))⟩
  f27 := ⟨Tryz.f87.name, by decide, Tryz.func87.trans (congrArg some (by kernel_rfl))⟩
  f28 := Tryz.func74.trans (congrArg some (by kernel_rfl))
  f29 := Tryz.func75.trans (congrArg some (by kernel_rfl))
  f46 := ⟨Tryz.f108.name, by decide, Tryz.func108.trans (congrArg some (by kernel_rfl))⟩
  f47 := Tryz.func102.trans (congrArg some (by kernel_rfl))
  f48 := Tryz.func103.trans (congrArg some (by kernel_rfl))
  f49 := ⟨Tryz.f109.name, by decide, Tryz.func109.trans (congrArg some (by kernel_rfl))⟩
  f50 := ⟨Tryz.f110.name, by decide, Tryz.func110.trans (congrArg some (by kernel_rfl))⟩
  f57 := ⟨Tryz.f125.name, by decide, Tryz.func125.trans (congrArg some (by kernel_rfl))⟩
  t0 := Tryz.underlying0
  a0 := Tryz.isAgg0
  z0 := Tryz.sizeOf0
  v0 := Tryz.zeroValue0
  t3 := Tryz.underlying3
  a3 := Tryz.isAgg3
  z3 := Tryz.sizeOf3
  v3 := Tryz.zeroValue3
  t4 := Tryz.underlying4
  a4 := Tryz.isAgg4
  z4 := Tryz.sizeOf4
  v4 := Tryz.zeroValue4
  t5 := Tryz.underlying5
  a5 := Tryz.isAgg5
  z5 := Tryz.sizeOf5
  v5 := Tryz.zeroValue5
  t9 := Tryz.underlying9
  a9 := Tryz.isAgg9
  z9 := Tryz.sizeOf9
  v9 := Tryz.zeroValue9
  t22 := Tryz.underlying22
  a22 := Tryz.isAgg22
  z22 := Tryz.sizeOf22
  v22 := Tryz.zeroValue22
  t25 := Tryz.underlying73
  a25 := Tryz.isAgg73
  z25 := Tryz.sizeOf73
  v25 := Tryz.zeroValue73
  t39 := Tryz.underlying77
  a39 := Tryz.isAgg77
  z39 := Tryz.sizeOf77
  v39 := Tryz.zeroValue77
  t45 := Tryz.underlying112
  a45 := Tryz.isAgg112
  z45 := Tryz.sizeOf112
  v45 := Tryz.zeroValue112
  t46 := Tryz.underlying113
  a46 := Tryz.isAgg113
  z46 := Tryz.sizeOf113
  v46 := Tryz.zeroValue113
  t50 := Tryz.underlying47
  a50 := Tryz.isAgg47
  z50 := Tryz.sizeOf47
  v50 := Tryz.zeroValue47
  t53 := Tryz.underlying120
  a53 := Tryz.isAgg120
  z53 := Tryz.sizeOf120
  v53 := Tryz.zeroValue120
  t55 := Tryz.underlying122
  a55 := Tryz.isAgg122
  z55 := Tryz.sizeOf122
  v55 := Tryz.zeroValue122
  t66 := Tryz.underlying149
  a66 := Tryz.isAgg149
  z66 := Tryz.sizeOf149
  v66 := Tryz.zeroValue149
  t70 := Tryz.underlying153
  a70 := Tryz.isAgg153
  z70 := Tryz.sizeOf153
  v70 := Tryz.zeroValue153
  t76 := Tryz.underlying161
  a76 := Tryz.isAgg161
  z76 := Tryz.sizeOf161
  v76 := Tryz.zeroValue161
  t77 := Tryz.underlying162
  a77 := Tryz.isAgg162
  z77 := Tryz.sizeOf162
  v77 := Tryz.zeroValue162 }
def Tryz.sortD_ren : Go.Shelf.Ren := ⟨fun | 6 => 78 | 15 => 45 | 14 => 107 | 28 => 74 | 29 => 75 | 20 => 117 | 21 => 118 | 22 => 119 | 23 => 120 | 24 => 121 | 25 => 122 | 26 => 123 | 27 => 124 | 46 => 127 | 47 => 102 | 48 => 103 | 49 => 128 | 50 => 129 | 57 => 130 | n => n, fun | 22 => 57 | 24 => 56 | 25 => 126 | 3 => 3 | 39 => 77 | 0 => 0 | 53 => 120 | 55 => 122 | 4 => 4 | 46 => 113 | 45 => 112 | 50 => 47 | 5 => 5 | 9 => 9 | 66 => 149 | 70 => 153 | 76 => 161 | 77 => 162 | n => n, fun | n => n⟩
theorem Tryz.sortD : Go.Proofs.SlLaysF0.n6 Tryz.prog Tryz.sortD_ren := {
  mixed := by kernel_rfl
  f6 := ⟨Tryz.f78.name, by decide, Tryz.func78.trans (congrArg some (by kernel_rfl))⟩
  f14 := ⟨Tryz.f107.name, by decide, Tryz.func107.trans (congrArg some (by kernel_rfl))⟩
  f15 := Tryz.func45.trans (congrArg some (by kernel_rfl))
  f20 := ⟨Tryz.f117.name, by decide, Tryz.func117.trans (congrArg some (by kernel_rfl))⟩
  f21 := ⟨Tryz.f118.name, by decide, Tryz.func118.trans (congrArg some (by kernel_rfl))⟩
  f22 := ⟨Tryz.f119.name, by decide, Tryz.func119.trans (congrArg some (by kernel_rfl))⟩
  f23 := ⟨Tryz.f120.name, by decide, Tryz.func120.trans (congrArg some (by kernel_rfl))⟩
  f24 := ⟨Tryz.f121.name, by decide, Tryz.func121.trans (congrArg some (by kernel_rfl))⟩
  f25 := ⟨Tryz.f122.name, by decide, Tryz.func122.trans (congrArg some (by kernel_rfl))⟩
  f26 := ⟨Tryz.f123.name, by decide, Tryz.func123.trans (congrArg some (by kernel_rfl))⟩
  f27 := ⟨Tryz.f124.name, by decide, Tryz.func124.trans (congrArg some (by kernel_rfl))⟩
  f28 := Tryz.func74.trans (congrArg some (by kernel_rfl))
  f29 := Tryz.func75.trans (congrArg some (by kernel_rfl))
  f46 := ⟨Tryz.f127.name, by decide, Tryz.func127.trans (congrArg some (by kernel_rfl))⟩
  f47 := Tryz.func102.trans (congrArg some (by kernel_rfl))
  f48 := Tryz.func103.trans (congrArg some (by kernel_rfl))
  f49 := ⟨Tryz.f128.name, by decide, Tryz.func128.trans (congrArg some (by kernel_rfl))⟩
  f50 := ⟨Tryz.f129.name, by decide, Tryz.func129.trans (congrArg some (by kernel_rfl))⟩
  f57 := ⟨Tryz.f130.name, by decide, Tryz.func130.trans (congrArg some (by kernel_rfl))⟩
  t0 := Tryz.underlying0
  a0 := Tryz.isAgg0
  z0 := Tryz.sizeOf0
  v0 := Tryz.zeroValue0
  t3 := Tryz.underlying3
  a3 := Tryz.isAgg3
  z3 := Tryz.sizeOf3
  v3 := Tryz.zeroValue3
  t4 := Tryz.underlying4
  a4 := Tryz.isAgg4
  z4 := Tryz.sizeOf4
  v4 := Tryz.zeroValue4
  t5 := Tryz.underlying5
  a5 := Tryz.isAgg5
  z5 := Tryz.sizeOf5
  v5 := Tryz.zeroValue5
  t9 := Tryz.underlying9
  a9 := Tryz.isAgg9
  z9 := Tryz.sizeOf9
  v9 := Tryz.zeroValue9
  t22 := Tryz.underlying57
  a22 := Tryz.isAgg57
  z22 := Tryz.sizeOf57
  v22 := Tryz.zeroValue57
  t25 := Tryz.underlying126
  a25 := Tryz.isAgg126
  z25 := Tryz.sizeOf126
  v25 := Tryz.zeroValue126
  t39 := Tryz.underlying77
  a39 := Tryz.isAgg77
  z39 := Tryz.sizeOf77
  v39 := Tryz.zeroValue77
  t45 := Tryz.underlying112
  a45 := Tryz.isAgg112
  z45 := Tryz.sizeOf112
  v45 := Tryz.zeroValue112
  t46 := Tryz.underlying113
  a46 := Tryz.isAgg113
  z46 := Tryz.sizeOf113
  v46 := Tryz.zeroValue113
  t50 := Tryz.underlying47
  a50 := Tryz.isAgg47
  z50 := Tryz.sizeOf47
  v50 := Tryz.zeroValue47
  t53 := Tryz.underlying120
  a53 := Tryz.isAgg120
  z53 := Tryz.sizeOf120
  v53 := Tryz.zeroValue120
  t55 := Tryz.underlying122
  a55 := Tryz.isAgg122
  z55 := Tryz.sizeOf122
  v55 := Tryz.zeroValue122
  t66 := Tryz.underlying149
  a66 := Tryz.isAgg149
  z66 := Tryz.sizeOf149
  v66 := Tryz.zeroValue149
  t70 := Tryz.underlying153
  a70 := Tryz.isAgg153
  z70 := Tryz.sizeOf153
  v70 := Tryz.zeroValue153
  t76 := Tryz.underlying161
  a76 := Tryz.isAgg161
  z76 := Tryz.sizeOf161
  v76 := Tryz.zeroValue161
  t77 := Tryz.underlying162
  a77 := Tryz.isAgg162
  z77 := Tryz.sizeOf162
  v77 := Tryz.zeroValue162 }
end Go.Proofs
namespace Go.Proofs.YtdmodppoellbkaaGreat
open Go Go.RowKit
variable (U : Cx)
theorem Own.grow {H : Hp} {N : Nat} {w : World} (h : Own U H N w) (os : Array Obj) : Own U H (N + os.size) (Sort.grow w os) := by
  have hold : ∀ k, k < N → (Sort.grow w os).heap[k]? = w.heap[k]? := fun k hk => Sort.heap_grow_old w os (by rw [h.size]; exact hk)
  have hsz : (Sort.grow w os).heap.size = N + os.size := by rw [Sort.size_grow, h.size]
  refine ⟨⟨h.below.os, h.below.tape, h.below.output, by rw [hsz, ← h.size]; have := h.below.size; omega, fun k hk => (hold k (by have := h.hBN; omega)).trans (h.below.block k hk)⟩, ?_, hsz, fun b o e => by have := h.lt b o e; omega, by have := h.hBN; omega, h.apart, h.dr⟩
  intro b o e
  have hlt := h.lt b o e
  refine ⟨(h.blk b o e).1, Blk.holds_mono (h.blk b o e).2 (hold b hlt) (fun es it left cur eo => hold it ?_) (by rw [hsz, h.size]; omega)⟩
  subst eo
  have := mapr_lt (h.blk b _ e).2
  rw [h.size] at this; exact this
theorem Own.sorted {α : Type} [Inhabited α] {H : Hp} {N : Nat} {w : World} (h : Own U H N w) {b e off tot : Nat} {cs : List Value} (hb : H b = some (.row e off cs tot)) (enc : α → Value) (d : Array α) (hd : d.size = cs.length) (n : Nat) (os : Array Obj) :
    Own U (hset H b (.row e off (d.toList.map enc) tot)) (N + os.size) (Sort.grow (Sort.putRow enc (Sort.ahead w n) b off d) os) := by
  refine Own.grow U (h.turn U (w' := Sort.putRow enc (Sort.ahead w n) b off d) (o := .row e off (d.toList.map enc) tot) hb ?_ rfl rfl rfl rfl ?_ ?_ ?_) os
  · obtain ⟨c, h1, h2, h3, h4⟩ := (h.blk b _ hb).2
    refine ⟨Sort.putCells enc off d c, ?_, ?_, ?_, ?_⟩
    · simp [Sort.putRow, Sort.mapBlock, Sort.ahead, Array.getElem?_modify, h1, Sort.onCells]
    · simp [Sort.putCells, h2]
    · simp [hd]; exact h3
    · intro i hi
      simp only [List.length_map, Array.length_toList] at hi
      have hc : off + i < c.size := by omega
      simp only [Sort.putCells, Array.getElem?_mapIdx, Array.getElem?_eq_getElem hc, Option.map_some]
      rw [if_pos ⟨by omega, by omega⟩, show off + i - off = i by omega, getElem!_pos d i hi]
      simp [hi]
  · simp [Sort.putRow, Sort.mapBlock, Sort.ahead]
  · intro k hk
    simp [Sort.putRow, Sort.mapBlock, Sort.ahead, Array.getElem?_modify, Ne.symm hk]
  · simp [Sort.putRow, Sort.mapBlock, Sort.ahead]
theorem Own.holdsR {α : Type} [Inhabited α] {H : Hp} {N : Nat} {w : World} (h : Own U H N w) {b e off tot : Nat} {cs : List Value} (hb : H b = some (.row e off cs tot)) (enc : α → Value) (d : Array α) (hd : d.toList.map enc = cs) : Sort.Holds enc w b off d := by
  obtain ⟨c, h1, h2, h3, h4⟩ := (h.blk b _ hb).2
  have hl : d.size = cs.length := by rw [← hd]; simp
  intro j hj
  have := h4 j (by omega)
  refine ⟨?_, ?_⟩
  · simp only [World.cell?, h1]
    rw [if_neg (by simp), this, ← hd, getElem!_pos d j hj]; simp [hj]
  · simp [World.frozen?, h1]
/-- The numbers of a list, rising. -/
def sortN (xs : List Nat) : List Nat := xs.mergeSort fun x y => decide (x ≤ y)
theorem sortN_perm (xs : List Nat) : (sortN xs).Perm xs := List.mergeSort_perm _ _
theorem sortN_sorted (xs : List Nat) : (sortN xs).Pairwise (· ≤ ·) := by
  have := List.pairwise_mergeSort (le := fun x y : Nat => decide (x ≤ y)) (by intro a b c; simp; omega) (by intro a b; simp; omega) xs
  unfold sortN
  exact this.imp (by intro a b h; simpa using h)
theorem sortN_length (xs : List Nat) : (sortN xs).length = xs.length := (sortN_perm xs).length_eq
theorem s22 (v : Value) (xs : List Nat) (H : Hp) (N : Nat) (hv : IsSl H v 3 1 (nats xs)) (hx : xs.length ≤ 1000000) :
    Spec U 22 #[v] H N (fun r H' N' => r = .tuple #[] ∧ N ≤ N' ∧ IsSl H' v 3 1 (nats (sortN xs)) ∧ ∀ c, blkOf v ≠ some c → H' c = H c) := by
  rcases hv with ⟨rfl, h0⟩ | ⟨b, off, k, cap, tot, rfl, hH, hl, hk, ht⟩
  · have hx0 : xs = [] := by cases xs with | nil => rfl | cons a l => simp [nats] at h0
    subst hx0
    intro w ho
    rw [P_eq]
    refine (Any.slices_Sort_int_none Tryz.lays189 none 0 w).mono ?_
    rintro e w' ⟨rfl, rfl⟩
    exact ⟨_, H, N, rfl, ho, rfl, Nat.le_refl _, .inl ⟨rfl, by simp [sortN, nats]⟩, fun _ _ => rfl⟩
  · have hk' : k = xs.length := by rw [nats_length] at hl; omega
    subst hk'
    intro w ho
    rw [P_eq]
    have hm : (xs.map (fun x : Nat => (x : Int))).length = xs.length := by simp
    have hcs : ((xs.map (fun x : Nat => (x : Int))).toArray.toList.map (Value.int .i64)) = nats xs := by simp [nats]
    have hh := ho.holdsR U hH (Value.int .i64) (xs.map (fun x : Nat => (x : Int))).toArray hcs
    have hs := Any.slices_Sort_int Tryz.lays189 b off cap (xs.map (fun x : Nat => (x : Int))) w hh (by rw [ho.size]; exact ho.lt _ _ hH) (by rw [hm]; omega)
    rw [hm] at hs
    refine hs.mono ?_
    rintro e w' ⟨rfl, n, os, rfl⟩
    have hms : (xs.map (fun x : Nat => (x : Int))).mergeSort (fun x y => decide (x ≤ y)) = (sortN xs).map (fun x : Nat => (x : Int)) := by
      unfold sortN
      rw [List.map_mergeSort (r := fun x y : Nat => decide (x ≤ y)) (s := fun x y : Int => decide (x ≤ y))]
      intro a _ b _; simp
    refine ⟨_, _, _, rfl, ho.sorted U hH (Value.int .i64) _ (by rw [hms]; simp [sortN_length, nats_length]) n os, rfl, by omega, .inr ⟨b, off, xs.length, cap, tot, rfl, ?_, ?_, hk, ht⟩, ?_⟩
    · rw [hsy, hms]; simp [nats]
    · rw [nats_length, sortN_length, Nat.mul_one]
    · intro c hc
      exact hsn (by rintro rfl; exact hc rfl)
end Go.Proofs.YtdmodppoellbkaaGreat
namespace Go.Proofs.YtdmodppoellbkaaGreat
open Go Go.RowKit
variable (U : Cx)
theorem rd_at {R : Hp} {b e u tot : Nat} {vs : List Value} {v : Value} (hB : U.B ≤ b) (h : R b = some (.row e 0 vs tot)) (hv : vs[u]? = some v) : rd U R b (0 + u) = some v := by
  rw [rrw U hB h, if_pos (by omega), Nat.zero_add, Nat.sub_zero]; exact hv
theorem rd_at0 {R : Hp} {b e u tot : Nat} {vs : List Value} {v : Value} (hB : U.B ≤ b) (h : R b = some (.row e 0 vs tot)) (hv : vs[u]? = some v) : rd U R b u = some v := by
  rw [rrw U hB h, if_pos (by omega), Nat.sub_zero]; exact hv
/-- Lists that are told by their values, each in a block of its own behind block 'b'. -/
structure Fam (H : Hp) (b e sz N : Nat) (vs : List Value) (css : List (List Value)) : Prop where
  len : vs.length = css.length
  sl : ∀ (i : Nat) (v : Value) (cs : List Value), vs[i]? = some v → css[i]? = some cs → IsSl H v e sz cs
  gt : ∀ (i : Nat) (v : Value) (c : Nat), vs[i]? = some v → blkOf v = some c → b < c ∧ c < N
  ne : ∀ (i j : Nat) (v v' : Value) (c : Nat), vs[i]? = some v → vs[j]? = some v' → blkOf v = some c → blkOf v' = some c → i = j
theorem Fam.keep {H H2 : Hp} {b e sz N N2 : Nat} {vs : List Value} {css : List (List Value)} (h : Fam H b e sz N vs css) (hk : ∀ c, b < c → c < N → H2 c = H c) (hN : N ≤ N2) : Fam H2 b e sz N2 vs css :=
  ⟨h.len, fun i v cs hv hc => (h.sl i v cs hv hc).at fun c hb => hk c (h.gt i v c hv hb).1 (h.gt i v c hv hb).2, fun i v c hv hb => ⟨(h.gt i v c hv hb).1, by have := (h.gt i v c hv hb).2; omega⟩, h.ne⟩
theorem Fam.fresh (H : Hp) (b e sz N n : Nat) : Fam H b e sz N (List.replicate n (.slice none 0 0)) (List.replicate n []) := by
  have key : ∀ (i : Nat) (v : Value), (List.replicate n (Value.slice none 0 0))[i]? = some v → v = .slice none 0 0 := by
    intro i v hv; rw [List.getElem?_replicate] at hv; split at hv <;> simp at hv; exact hv.symm
  refine ⟨by simp, fun i v cs hv hc => ?_, fun i v c hv hb => ?_, fun i j v v' c hv hv' hb => ?_⟩
  · rw [List.getElem?_replicate] at hc; split at hc <;> simp at hc
    exact .inl ⟨key i v hv, hc⟩
  · rw [key i v hv] at hb; cases hb
  · rw [key i v hv] at hb; cases hb
/-- One of them is turned, and told anew. -/
theorem Fam.turn {H H' : Hp} {b e sz N N' i : Nat} {vs : List Value} {css : List (List Value)} {v v' : Value} {cs' : List Value} (h : Fam H b e sz N vs css) (hv : vs[i]? = some v) (hN : N ≤ N') (hsl : IsSl H' v' e sz cs')
    (hk : ∀ c, b < c → c < N → blkOf v ≠ some c → H' c = H c) (hl : ∀ c, blkOf v' = some c → c < N' ∧ b < c ∧ (blkOf v = some c ∨ N ≤ c)) : Fam H' b e sz N' (vs.set i v') (css.set i cs') := by
  have hi : i < vs.length := by
    rcases Nat.lt_or_ge i vs.length with h' | h'
    · exact h'
    · rw [List.getElem?_eq_none h'] at hv; cases hv
  have hcase : ∀ (j : Nat) (u : Value), (vs.set i v')[j]? = some u → (j = i ∧ u = v') ∨ (j ≠ i ∧ vs[j]? = some u) := by
    intro j u hu
    rw [List.getElem?_set] at hu
    by_cases hij : i = j
    · rw [if_pos hij, if_pos (by omega)] at hu; cases hu; exact .inl ⟨hij.symm, rfl⟩
    · rw [if_neg hij] at hu; exact .inr ⟨fun h => hij h.symm, hu⟩
  have hother : ∀ (j : Nat) (u : Value) (c : Nat), j ≠ i → vs[j]? = some u → blkOf u = some c → blkOf v ≠ some c := fun j u c hj hu hc hvc => hj (h.ne j i u v c hu hv hc hvc)
  refine ⟨by simp [h.len], ?_, ?_, ?_⟩
  · intro j u cs hu hc
    rcases hcase j u hu with ⟨rfl, rfl⟩ | ⟨hj, hu'⟩
    · rw [List.getElem?_set, if_pos rfl, if_pos (by rw [← h.len]; exact hi)] at hc; cases hc; exact hsl
    · rw [List.getElem?_set, if_neg (Ne.symm hj)] at hc
      exact (h.sl j u cs hu' hc).at fun c hb => hk c (h.gt j u c hu' hb).1 (h.gt j u c hu' hb).2 (hother j u c hj hu' hb)
  · intro j u c hu hb
    rcases hcase j u hu with ⟨rfl, rfl⟩ | ⟨hj, hu'⟩
    · exact ⟨(hl c hb).2.1, (hl c hb).1⟩
    · have := h.gt j u c hu' hb; omega
  · intro j l u u' c hu hu' hb hb'
    rcases hcase j u hu with ⟨rfl, rfl⟩ | ⟨hj, hu1⟩ <;> rcases hcase l u' hu' with ⟨rfl, rfl⟩ | ⟨hl', hu2⟩
    · rfl
    · exfalso
      rcases (hl c hb).2.2 with h1 | h1
      · exact hother l u' c hl' hu2 hb' h1
      · have := (h.gt l u' c hu2 hb').2; omega
    · exfalso
      rcases (hl c hb').2.2 with h1 | h1
      · exact hother j u c hj hu1 hb h1
      · have := (h.gt j u c hu1 hb).2; omega
    · exact h.ne j l u u' c hu1 hu2 hb hb'
theorem Fam.low {H : Hp} {b e sz N i : Nat} {vs : List Value} {css : List (List Value)} {v : Value} (h : Fam H b e sz N vs css) (hv : vs[i]? = some v) {c : Nat} (hc : c ≤ b ∨ N ≤ c) : blkOf v ≠ some c := by
  intro hb; have := h.gt i v c hv hb; omega
/-- One of them has grown. -/
theorem Fam.step {H Hl H2 : Hp} {b e sz N Nl N2 u : Nat} {o : Blk} {vs : List Value} {css : List (List Value)} {v v2 : Value} {cs2 : List Value} (h : Fam H b e sz N vs css) (hv : vs[u]? = some v) (hbN : b < N) (hNl : N ≤ Nl) (hN2 : Nl ≤ N2)
    (hl : ∀ c, c < N → Hl c = H c) (hfr : ∀ c, c < Nl → blkOf v ≠ some c → H2 c = Hl c) (hsl : IsSl H2 v2 e sz cs2) (hloc : ∃ c, blkOf v2 = some c ∧ c < N2 ∧ (blkOf v = some c ∨ Nl ≤ c)) :
    Fam (hset H2 b o) b e sz N2 (vs.set u v2) (css.set u cs2) := by
  obtain ⟨c2, hb2, hc2, ho2⟩ := hloc
  have hbc : b < c2 := by
    rcases ho2 with h1 | h1
    · exact (h.gt u v c2 hv h1).1
    · omega
  refine h.turn hv (by omega) (hsl.at fun c hc => ?_) (fun c h1 h2 h3 => ?_) (fun c hc => ?_)
  · rw [hb2] at hc; cases hc; exact hsn (by omega)
  · rw [hsn (by omega), hfr c (by omega) h3, hl c h2]
  · rw [hb2] at hc; cases hc
    exact ⟨hc2, hbc, ho2.imp id (by omega)⟩
/-- Lists of numbers that can be read. -/
def Rd2 (F : Hp) (v : Value) (xss : List (List Nat)) : Prop :=
  ∃ vs, RdS U F v 1 vs ∧ vs.length = xss.length ∧ ∀ (i : Nat) (u : Value) (xs : List Nat), vs[i]? = some u → xss[i]? = some xs → RdS U F u 1 (nats xs)
theorem Rd2.sub {F H : Hp} {v : Value} {xss : List (List Nat)} (h : Rd2 U F v xss) (hs : Sub F H) : Rd2 U H v xss := by
  obtain ⟨vs, h1, h2, h3⟩ := h
  exact ⟨vs, h1.sub U hs, h2, fun i u xs hu hx => (h3 i u xs hu hx).sub U hs⟩
theorem row_rds {H : Hp} {b e tot n : Nat} {vs : List Value} (hB : U.B ≤ b) (h : H b = some (.row e 0 vs tot)) (hn : vs.length = n) {cap : Nat} (hc : n ≤ cap) : RdS U H (.slice (some ⟨b, 0, none⟩) n cap) 1 vs :=
  ⟨_, n, cap, rfl, hc, by omega, fun _ => ⟨b, 0, rfl, fun j u hu => rd_at U hB h hu⟩⟩
theorem Fam.rd2 {H : Hp} {b e N tot n : Nat} {vs : List Value} {xss : List (List Nat)} (h : Fam H b 3 1 N vs (xss.map nats)) (hB : ∀ b o, H b = some o → U.B ≤ b) (hb : H b = some (.row e 0 vs tot)) (hn : vs.length = n) :
    Rd2 U H (.slice (some ⟨b, 0, none⟩) n n) xss := by
  refine ⟨vs, row_rds U (hB _ _ hb) hb hn (Nat.le_refl _), by rw [h.len]; simp, fun i u xs hu hx => ?_⟩
  exact (h.sl i u (nats xs) hu (by rw [List.getElem?_map, hx]; rfl)).rds U hB
theorem get_ex {α : Type} {l : List α} {i : Nat} (h : i < l.length) : ∃ v, l[i]? = some v := ⟨_, List.getElem?_eq_getElem h⟩
theorem Sub.low {R H H' : Hp} {b : Nat} (h : Sub R H) (hl : ∀ c o, R c = some o → U.B ≤ c ∧ c < b) (hk : ∀ c, c < b → H' c = H c) : Sub R H' := fun c o hc => by rw [hk c (hl c o hc).2]; exact h c o hc
/-- Lists that grow behind block 'b', which holds them; what was known before is known still. -/
structure Famo (R H : Hp) (b e0 e sz n N : Nat) (vs : List Value) (css : List (List Value)) : Prop where
  fam : Fam H b e sz N vs css
  row : H b = some (.row e0 0 vs n)
  len : vs.length = n
  sub : Sub R H
  lt : b < N
theorem Famo.clen {R H : Hp} {b e0 e sz n N : Nat} {vs : List Value} {css : List (List Value)} (h : Famo R H b e0 e sz n N vs css) : css.length = n := by rw [← h.fam.len, h.len]
theorem Famo.keep {R H H2 : Hp} {b e0 e sz n N N2 : Nat} {vs : List Value} {css : List (List Value)} (h : Famo R H b e0 e sz n N vs css) (hk : ∀ c, c < N → H2 c = H c) (hR : ∀ c o, R c = some o → U.B ≤ c ∧ c < b) (hN : N ≤ N2) : Famo R H2 b e0 e sz n N2 vs css :=
  ⟨h.fam.keep (fun c _ h2 => hk c h2) hN, (hk b h.lt).trans h.row, h.len, h.sub.low U hR fun c hc => hk c (by have := h.lt; omega), by have := h.lt; omega⟩
theorem Famo.step {R H Hl H2 : Hp} {b e0 e sz n N Nl N2 u : Nat} {vs : List Value} {css : List (List Value)} {v v2 : Value} {cs2 : List Value} (h : Famo R H b e0 e sz n N vs css) (hR : ∀ c o, R c = some o → U.B ≤ c ∧ c < b) (hv : vs[u]? = some v) (hNl : N ≤ Nl) (hN2 : Nl ≤ N2)
    (hl : ∀ c, c < N → Hl c = H c) (hfr : ∀ c, c < Nl → blkOf v ≠ some c → H2 c = Hl c) (hsl : IsSl H2 v2 e sz cs2) (hloc : ∃ c, blkOf v2 = some c ∧ c < N2 ∧ (blkOf v = some c ∨ Nl ≤ c)) :
    Famo R (hset H2 b (.row e0 0 (vs.set u v2) n)) b e0 e sz n N2 (vs.set u v2) (css.set u cs2) := by
  have hlt := h.lt
  refine ⟨h.fam.step hv h.lt hNl hN2 hl hfr hsl hloc, hsy, by rw [List.length_set]; exact h.len, ?_, by omega⟩
  refine h.sub.low U hR fun c hc => ?_
  rw [hsn (by omega), hfr c (by omega) (h.fam.low hv (.inl (by omega))), hl c (by omega)]
theorem Famo.frame {R H Hl H2 : Hp} {b e0 e sz n N Nl u : Nat} {o : Blk} {vs : List Value} {css : List (List Value)} {v : Value} (h : Famo R H b e0 e sz n N vs css) (hv : vs[u]? = some v)
    (hfr : ∀ c, c < Nl → blkOf v ≠ some c → H2 c = Hl c) {c : Nat} (hc : N ≤ c) (hc2 : c < Nl) : hset H2 b o c = Hl c := by
  have hlt := h.lt
  rw [hsn (by omega), hfr c hc2 (h.fam.low hv (.inr hc))]
theorem Fam.not {H : Hp} {b e sz N i : Nat} {vs : List Value} {css : List (List Value)} {v : Value} (h : Fam H b e sz N vs css) (hv : vs[i]? = some v) {c e' base tot : Nat} {cs : List Value} (hc : H c = some (.row e' base cs tot)) (he : e' ≠ e) : blkOf v ≠ some c := by
  intro hb
  obtain ⟨cs', hcs⟩ := get_ex (l := css) (i := i) (by
    rw [← h.len]
    rcases Nat.lt_or_ge i vs.length with h' | h'
    · exact h'
    · rw [List.getElem?_eq_none h'] at hv; cases hv)
  rcases h.sl i v cs' hv hcs with ⟨rfl, _⟩ | ⟨b, off, k, cap, tot, rfl, h2, _⟩
  · cases hb
  · cases hb; rw [hc] at h2; cases h2; exact he rfl
theorem Famo.frame2 {R H Hl H2 : Hp} {b e0 e sz n N Nl u : Nat} {o : Blk} {vs : List Value} {css : List (List Value)} {v : Value} (h : Famo R H b e0 e sz n N vs css) (hv : vs[u]? = some v)
    (hfr : ∀ c, c < Nl → blkOf v ≠ some c → H2 c = Hl c) {c : Nat} (hne : c ≠ b) (hc : blkOf v ≠ some c) (hc2 : c < Nl) : hset H2 b o c = Hl c := by
  rw [hsn hne, hfr c hc2 hc]
theorem Famo.get {R H : Hp} {b e0 e sz n N u : Nat} {vs : List Value} {css : List (List Value)} (h : Famo R H b e0 e sz n N vs css) (hu : u < n) : ∃ v cs, vs[u]? = some v ∧ css[u]? = some cs := by
  obtain ⟨v, hv⟩ := get_ex (l := vs) (i := u) (by rw [h.len]; exact hu)
  obtain ⟨cs, hc⟩ := get_ex (l := css) (i := u) (by rw [h.clen]; exact hu)
  exact ⟨v, cs, hv, hc⟩
theorem oneS {v : Value} {H : Hp} {e sz : Nat} {cs : List Value} (h : IsSl H v e sz cs) : v.cells.toList = [v] ∧ v.oneCell' = true := by
  rcases h with ⟨rfl, _⟩ | ⟨b, off, k, cap, tot, rfl, _⟩ <;> exact ⟨rfl, rfl⟩
/-- One of them is turned where it lies. -/
theorem Famo.turn {R H H' : Hp} {b e0 e sz n N N' u : Nat} {vs : List Value} {css : List (List Value)} {v : Value} {cs' : List Value} (h : Famo R H b e0 e sz n N vs css) (hR : ∀ c o, R c = some o → U.B ≤ c ∧ c < b) (hv : vs[u]? = some v) (hN : N ≤ N')
    (hsl : IsSl H' v e sz cs') (hfr : ∀ c, blkOf v ≠ some c → H' c = H c) : Famo R H' b e0 e sz n N' vs (css.set u cs') := by
  have hlt := h.lt
  have hu : u < vs.length := by
    rcases Nat.lt_or_ge u vs.length with h' | h'
    · exact h'
    · rw [List.getElem?_eq_none h'] at hv; cases hv
  have hset : vs.set u v = vs := by
    apply List.ext_getElem?
    intro j; rw [List.getElem?_set]; split
    · rename_i hj; subst hj; exact hv.symm
    · rfl
  refine ⟨?_, (hfr b (h.fam.low hv (.inl (Nat.le_refl _)))).trans h.row, h.len, h.sub.low U hR fun c hc => hfr c (h.fam.low hv (.inl (by omega))), by omega⟩
  have := h.fam.turn hv hN hsl (fun c _ _ hne => hfr c hne) (fun c hc => ⟨by have := h.fam.gt u v c hv hc; omega, (h.fam.gt u v c hv hc).1, .inl hc⟩)
  rwa [hset] at this
theorem wc_mid {n : Nat} {c : Code} {T : Tm} {H : Hp} {N : Nat} {Q : Post} (Q1 : Tm → Hp → Nat → Prop) (h : WC U n c T H N (fun e T H N => e = .normal ∧ Q1 T H N)) (hk : ∀ T H N, Q1 T H N → Q .normal T H N) : WC U n c T H N Q :=
  h.mono U fun e T H N ⟨he, hq⟩ => he ▸ hk T H N hq
theorem Fam.keep2 {H H2 : Hp} {b e sz N N2 : Nat} {vs : List Value} {css : List (List Value)} (h : Fam H b e sz N vs css) (hk : ∀ (i : Nat) (v : Value) (c : Nat), vs[i]? = some v → blkOf v = some c → H2 c = H c) (hN : N ≤ N2) : Fam H2 b e sz N2 vs css :=
  ⟨h.len, fun i v cs hv hc => (h.sl i v cs hv hc).at fun c hb => hk i v c hv hb, fun i v c hv hb => ⟨(h.gt i v c hv hb).1, by have := (h.gt i v c hv hb).2; omega⟩, h.ne⟩
/-! ### The lists of neighbours -/
def addN {α : Type} (X : List (List α)) (u : Nat) (y : α) : List (List α) := X.set u (X.getD u [] ++ [y])
theorem addN_length {α : Type} (X : List (List α)) (u : Nat) (y : α) : (addN X u y).length = X.length := by simp [addN]
theorem addN_nats {X : List (List Nat)} {u y : Nat} {cs : List Value} (h : (X.map nats)[u]? = some cs) : (X.map nats).set u (cs ++ [.int .i64 ((y : Nat) : Int)]) = (addN X u y).map nats := by
  rw [List.getElem?_map] at h
  cases hx : X[u]? with
  | none => rw [hx] at h; cases h
  | some xs =>
    rw [hx] at h; cases h
    simp [addN, List.map_set, List.getD_eq_getElem?_getD, hx, nats_append, nats]
theorem addN_len {α : Type} {X : List (List α)} {L u : Nat} {y : α} (h : ∀ xs ∈ X, xs.length ≤ L) : ∀ xs ∈ addN X u y, xs.length ≤ L + 1 := by
  intro xs hx
  rcases List.mem_or_eq_of_mem_set hx with h1 | h1
  · have := h xs h1; omega
  · subst h1
    cases hg : X[u]? with
    | none => simp [List.getD_eq_getElem?_getD, hg]
    | some ys => have := h ys (List.mem_of_getElem? hg); simp [List.getD_eq_getElem?_getD, hg]; omega
def nearAcc (n : Nat) (es : List NE) : List (List Nat) := es.foldl (fun X e => addN (addN X e.1 e.2.1) e.2.1 e.1) (List.replicate n [])
theorem nearAcc_succ (n : Nat) (E : List NE) {k : Nat} (hk : k < E.length) : nearAcc n (E.take (k + 1)) = addN (addN (nearAcc n (E.take k)) E[k].1 E[k].2.1) E[k].2.1 E[k].1 := by
  rw [List.take_succ_eq_append_getElem hk, nearAcc, List.foldl_append]; rfl
theorem nearAcc_length (n : Nat) (es : List NE) : (nearAcc n es).length = n := by
  unfold nearAcc
  have : ∀ (X : List (List Nat)), (es.foldl (fun X e => addN (addN X e.1 e.2.1) e.2.1 e.1) X).length = X.length := by
    induction es with
    | nil => intro X; rfl
    | cons e es ih => intro X; rw [List.foldl_cons, ih, addN_length, addN_length]
  rw [this]; simp
theorem nearAcc_len (n : Nat) (es : List NE) : ∀ xs ∈ nearAcc n es, xs.length ≤ 2 * es.length := by
  have key : ∀ (es : List NE) (X : List (List Nat)) (L : Nat), (∀ xs ∈ X, xs.length ≤ L) → ∀ xs ∈ es.foldl (fun X e => addN (addN X e.1 e.2.1) e.2.1 e.1) X, xs.length ≤ L + 2 * es.length := by
    intro es
    induction es with
    | nil => intro X L h xs hx; have := h xs hx; omega
    | cons e es ih =>
      intro X L h xs hx
      have := ih _ (L + 1 + 1) (addN_len (addN_len h)) xs hx
      simp only [List.length_cons]; omega
  intro xs hx
  have := key es (List.replicate n []) 0 (by intro xs hx; rw [List.mem_replicate] at hx; rw [hx.2]; simp) xs hx
  omega
theorem nats_bound {X : List (List Nat)} {L u : Nat} {cs : List Value} (hX : ∀ xs ∈ X, xs.length ≤ L) (h : (X.map nats)[u]? = some cs) : cs.length ≤ L := by
  rw [List.getElem?_map] at h
  cases hx : X[u]? with
  | none => rw [hx] at h; cases h
  | some xs => rw [hx] at h; cases h; rw [nats_length]; exact hX xs (List.mem_of_getElem? hx)
/-- The first k lists sorted. -/
def upto (k : Nat) (X : List (List Nat)) : List (List Nat) := (X.take k).map sortN ++ X.drop k
theorem upto_zero (X : List (List Nat)) : upto 0 X = X := by simp [upto]
theorem upto_all (X : List (List Nat)) {k : Nat} (h : X.length ≤ k) : upto k X = X.map sortN := by simp [upto, List.take_of_length_le h, List.drop_eq_nil_of_le h]
theorem upto_get (X : List (List Nat)) {k : Nat} (h : k < X.length) : (upto k X)[k]? = some X[k] := by
  rw [upto, List.getElem?_append_right (by simp; omega)]
  simp only [List.length_map, List.length_take]
  rw [Nat.min_eq_left (by omega), Nat.sub_self, List.getElem?_drop, Nat.add_zero, List.getElem?_eq_getElem h]
theorem upto_succ (X : List (List Nat)) {k : Nat} (h : k < X.length) : (upto k X).set k (sortN X[k]) = upto (k + 1) X := by
  rw [upto, List.set_append_right _ _ (by simp; omega), upto, List.take_succ_eq_append_getElem h, List.drop_eq_getElem_cons h]
  simp only [List.length_map, List.length_take, List.map_append, List.append_assoc]
  rw [Nat.min_eq_left (by omega), Nat.sub_self]; rfl
def nearL (n : Nat) (E : List NE) : List (List Nat) := (nearAcc n E).map sortN
end Go.Proofs.YtdmodppoellbkaaGreat
namespace Go.Proofs.YtdmodppoellbkaaGreat
open Go Go.RowKit
variable (U : Cx)
theorem s61f (n : Nat) (E : List NE) (sv : Value) (hg : GOk n E) (H : Hp) (N : Nat) (hv : RdS U H sv 3 (necs E)) : Spec U 61 #[(.agg #[(.int .i64 ((n : Nat) : Int)), sv])] H N (fun v H' N' => Rd2 U (from_ N H') v (nearL n E) ∧ Sub H H' ∧ N ≤ N') := by
  have hv0 := hv
  obtain ⟨p, cap, rfl, hc, hp⟩ := hv.edges U
  refine spa U pf_61 (m := 58) rfl rfl (by simp) fun hBN hlt => ?_
  obtain ⟨J, hJ⟩ := Has.ex (T := argsT #[(.agg #[(.int .i64 ((n : Nat) : Int)), (.slice p E.length cap)])]) (l := [(0, (.agg #[(.int .i64 ((n : Nat) : Int)), (.slice p E.length cap)]))]) ⟨rfl, trivial⟩
  rw [hJ]; clear hJ
  have hn64 := hg.hn; have hm := hg.hm
  repeat (first|refine nt ?_|refine nq ?_|refine wq U ?_)
  refine wg U ?_
  refine wl_op U rfl rfl (op_box U rfl rfl ?_)
  refine wr U ((ra U).to (v' := (.slice none 0 0)) rfl) rfl rfl ?_
  refine wz U ?_
  repeat (first|refine nt ?_|refine nq ?_|refine wq U ?_)
  refine wg U ?_
  refine wr U (rd_load2 U el_24 rfl (v0 := (.int .i64 ((n : Nat) : Int))) (v1 := (.slice p E.length cap))  (by rw [rhq U (by omega)]; rfl) (by rw [rhq U (by omega)]; rfl)) rfl rfl ?_
  refine wl_op U rfl rfl (op_call U Tryz.f32 rfl rfl pf_32 (by kernel_rfl) (by kernel_rfl) ((s32 U n E _ hg _ _ (hv.sub U ((Sub.refl _).hset (fresh hlt (by omega))))).mono U ?_))
  rintro _ R N1 ⟨rfl, hs1, hN1⟩
  have hx_1 := hs1 N _ (by first|(rw [hsy]; done) | (rw [hsy]; rfl))
  have hs_2 := ((Sub.refl _).hset (fresh hlt (by omega))).trans hs1
  refine wl_own U fun hBNR hltR => ?_
  refine wr U (rd_neq U rfl rfl) rfl rfl ?_
  refine wz U ?_
  repeat (first|refine nt ?_|refine nq ?_|refine wq U ?_)
  refine wcd U (t := false) rfl (fun h => nomatch h) fun _ => ?_
  refine wsk U ?_
  repeat (first|refine nt ?_|refine nq ?_|refine wq U ?_)
  refine wg U ?_
  refine wr U ((rfa U fb_24_0 rfl).to (v' := (.pointer (some ⟨N, 0, none⟩))) rfl) rfl rfl ?_
  refine wr U (rl1 U el_3 rfl (v := (.int .i64 ((n : Nat) : Int))) (by rw [rrw U (by omega) hx_1]; rfl)) rfl rfl ?_
  refine wl_op U rfl rfl (op_makeSlice U (m := n) (v := .slice none 0 0) sl_25 rfl rfl rfl (by omega) (by omega) ?_)
  refine wr U ((ra U).to (v' := (.slice (some ⟨N1, 0, none⟩) n n)) rfl) rfl rfl ?_
  refine wz U ?_
  refine wc_gen U (fun H2 => Famo R H2 N1 26 3 1 n (N1 + 1) (List.replicate n (.slice none 0 0)) ((List.replicate n []).map nats)) ⟨by simpa [nats] using Fam.fresh _ N1 3 1 (N1 + 1) n, hsy, by simp, (Sub.refl R).hset (fresh hltR (by omega)), by omega⟩ ?_
  rintro H2 hF0 hBN2 hlt2
  repeat (first|refine nt ?_|refine nq ?_|refine wq U ?_)
  refine wg U ?_
  refine wr U ((rfa U fb_24_1 rfl).to (v' := (.pointer (some ⟨N, 1, none⟩))) rfl) rfl rfl ?_
  refine wr U (rl1 U el_22 rfl (v := (.slice p E.length cap)) (by rw [rrw U (by omega) (hF0.sub _ _ hx_1)]; rfl)) rfl rfl ?_
  refine wr U ((rd_len' U sl_22 rfl).to (v' := (.int .i64 ((E.length : Nat) : Int))) rfl) rfl rfl ?_
  refine wr U ((rm U).to (v' := (.int .i64 0)) rfl) rfl rfl ?_
  refine wz U ?_
  repeat (first|refine nt ?_|refine nq ?_|refine wq U ?_)
  refine wc_block U ?_
  refine wc_loop U (fun m T H' N' => ∃ (k : Nat) (vs : List Value), k ≤ E.length ∧ m = E.length - k ∧ Has T [(1, (.pointer (some ⟨N, 0, none⟩))), (3, (.slice (some ⟨N1, 0, none⟩) n n)), (15, (.slice p E.length cap)), (16, (.int .i64 ((E.length : Nat) : Int))), (17, (.int .i64 ((k : Nat) : Int)))] ∧ Famo R H' N1 26 3 1 n N' vs ((nearAcc n (E.take k)).map nats)) E.length ⟨0, _, Nat.zero_le _, rfl, ⟨rfl, rfl, rfl, rfl, rfl, trivial⟩, hF0⟩ ?_
  rintro m T H3 N3 ⟨k, vs, hk, rfl, hT, hF⟩
  obtain ⟨J, rfl⟩ := hT.ex
  have hlt3 := hF.lt
  repeat (first|refine nt ?_|refine nq ?_|refine wq U ?_)
  refine wg U ?_
  refine wr U (rd_lss U rfl rfl) rfl rfl ?_
  refine wz U ?_
  repeat (first|refine nt ?_|refine nq ?_|refine wq U ?_)
  refine wcd U (t := (decide (((k : Nat) : Int) < ((E.length : Nat) : Int)))) rfl (fun hc => ?_) fun hc => ?_
  · replace hc := of_decide_eq_true hc
    refine wsk U ?_
    repeat (first|refine nt ?_|refine nq ?_)
    have hk1 : k < E.length := by omega
    obtain ⟨b, off, rfl⟩ := hp (by omega)
    have hv1 := (hv.sub U (((Sub.refl _).hset (fresh hlt (by omega))).trans hs1)).sub U hF.sub
    have he := hg.at hk1
    repeat (first|refine nt ?_|refine nq ?_|refine wq U ?_)
    refine wc_block U ?_
    repeat (first|refine nt ?_|refine nq ?_|refine wq U ?_)
    refine wg U ?_
    refine wr U (rd_idxN U (j := k) sl_22 rfl rfl (by omega)) rfl rfl ?_
    refine wr U (rd_load3 U el_43 rfl (v0 := (.int .i64 ((E[k].1 : Nat) : Int))) (v1 := (.int .i64 ((E[k].2.1 : Nat) : Int))) (v2 := (.int .i64 (E[k].2.2)))  (RdS.e0 U hv1 hk1) (RdS.e1 U hv1 hk1) (RdS.e2 U hv1 hk1)) rfl rfl ?_
    refine wl_op U rfl rfl (op_alloc U z_43 rfl ?_)
    refine wl_op0 U rfl (op_store U (vs := [(.int .i64 ((E[k].1 : Nat) : Int)), (.int .i64 ((E[k].2.1 : Nat) : Int)), (.int .i64 (E[k].2.2))]) (cs := [(.int .i64 0), (.int .i64 0), (.int .i64 0)]) el_43 rfl rfl rfl rfl (one3 rfl rfl rfl) (by first|(rw [hsy]; done) | (rw [hsy]; rfl)) (by omega) (by simp) ?_)
    refine wz U ?_
    have hX0 : ∀ xs ∈ nearAcc n (E.take k), xs.length ≤ 2000 := fun xs hx => by have := nearAcc_len n _ xs hx; rw [List.length_take] at this; omega
    obtain ⟨vA, csA, hvA, hcA⟩ := hF.get (show E[k].1 < n by omega)
    have hbA := nats_bound hX0 hcA
    repeat (first|refine nt ?_|refine nq ?_|refine wq U ?_)
    refine wc_mid U (fun T' H' N' => Has T' [(1, (.pointer (some ⟨N, 0, none⟩))), (3, (.slice (some ⟨N1, 0, none⟩) n n)), (15, (.slice (some ⟨b, off, none⟩) E.length cap)), (16, (.int .i64 ((E.length : Nat) : Int))), (17, (.int .i64 ((k : Nat) : Int))), (5, (.pointer (some ⟨N3, 0, none⟩)))] ∧ (N3 + 1) ≤ N' ∧ (∃ v2, Famo R H' N1 26 3 1 n N' (vs.set E[k].1 v2) (((nearAcc n (E.take k)).map nats).set E[k].1 (csA ++ [(.int .i64 ((E[k].2.1 : Nat) : Int))]))) ∧ H' N3 = some (.row 43 0 [(.int .i64 ((E[k].1 : Nat) : Int)), (.int .i64 ((E[k].2.1 : Nat) : Int)), (.int .i64 (E[k].2.2))] 3)) ?_ ?_
    · have hblt := hF.lt
      obtain ⟨R_3, hR_3⟩ : ∃ R, ofl [(N3, .row 43 0 [(.int .i64 ((E[k].1 : Nat) : Int)), (.int .i64 ((E[k].2.1 : Nat) : Int)), (.int .i64 (E[k].2.2))] 3)] = R := ⟨_, rfl⟩
      have hsR_3 : ∀ {X : Hp}, X N3 = some (.row 43 0 [(.int .i64 ((E[k].1 : Nat) : Int)), (.int .i64 ((E[k].2.1 : Nat) : Int)), (.int .i64 (E[k].2.2))] 3) → Sub R_3 X := fun {X} h0 => hR_3 ▸ sub_ofl (H := X) (by intro p hp; simp only [List.mem_singleton] at hp; subst hp; exact h0)
      have hxR_3 : R_3 N3 = some (.row 43 0 [(.int .i64 ((E[k].1 : Nat) : Int)), (.int .i64 ((E[k].2.1 : Nat) : Int)), (.int .i64 (E[k].2.2))] 3) := by rw [← hR_3]; exact hsy
      refine wc_draw U R_3 mixed ?_
      refine wh_rd U 0 rfl ((rm U).to (v' := (.slice (some ⟨N1, 0, none⟩) n n)) rfl) (by kernel_rfl) (by kernel_rfl) (by kernel_rfl) rfl rfl (hsR_3 (by first|(rw [hsy]; done) | (rw [hsy]; rfl))) ?_
      refine wh_rd U 1 rfl ((rfa U fb_43_0 rfl).to (v' := (.pointer (some ⟨N3, 0, none⟩))) rfl) (by kernel_rfl) (by kernel_rfl) (by kernel_rfl) rfl rfl (hsR_3 (by first|(rw [hsy]; done) | (rw [hsy]; rfl))) ?_
      refine wh_rd U 2 rfl (rl1 U el_3 rfl (v := (.int .i64 ((E[k].1 : Nat) : Int))) (by rw [rrw U (by omega) hxR_3]; rfl)) (by kernel_rfl) (by kernel_rfl) (by kernel_rfl) rfl rfl (hsR_3 (by first|(rw [hsy]; done) | (rw [hsy]; rfl))) ?_
      refine wh_rd U 3 rfl ((rm U).to (v' := (.slice (some ⟨N1, 0, none⟩) n n)) rfl) (by kernel_rfl) (by kernel_rfl) (by kernel_rfl) rfl rfl (hsR_3 (by first|(rw [hsy]; done) | (rw [hsy]; rfl))) ?_
      refine wh_rd U 4 rfl ((rfa U fb_43_0 rfl).to (v' := (.pointer (some ⟨N3, 0, none⟩))) rfl) (by kernel_rfl) (by kernel_rfl) (by kernel_rfl) rfl rfl (hsR_3 (by first|(rw [hsy]; done) | (rw [hsy]; rfl))) ?_
      refine wh_rd U 5 rfl (rl1 U el_3 rfl (v := (.int .i64 ((E[k].1 : Nat) : Int))) (by rw [rrw U (by omega) hxR_3]; rfl)) (by kernel_rfl) (by kernel_rfl) (by kernel_rfl) rfl rfl (hsR_3 (by first|(rw [hsy]; done) | (rw [hsy]; rfl))) ?_
      refine wh_rd U 6 rfl (rd_idx1 U (j := E[k].1) sl_25 rfl rfl (by omega)) (by kernel_rfl) (by kernel_rfl) (by kernel_rfl) rfl rfl (hsR_3 (by first|(rw [hsy]; done) | (rw [hsy]; rfl))) ?_
      refine wh_rd U 8 rfl ((rfa U fb_43_1 rfl).to (v' := (.pointer (some ⟨N3, 1, none⟩))) rfl) (by kernel_rfl) (by kernel_rfl) (by kernel_rfl) rfl rfl (hsR_3 (by first|(rw [hsy]; done) | (rw [hsy]; rfl))) ?_
      refine wh_rd U 9 rfl (rl1 U el_3 rfl (v := (.int .i64 ((E[k].2.1 : Nat) : Int))) (by rw [rrw U (by omega) hxR_3]; rfl)) (by kernel_rfl) (by kernel_rfl) (by kernel_rfl) rfl rfl (hsR_3 (by first|(rw [hsy]; done) | (rw [hsy]; rfl))) ?_
      refine wh_two U 7 10 (by kernel_rfl) rfl rfl rfl rfl rfl rfl (Rd.opw U (rl1 U el_26 rfl (v := vA) (rd_at U (by omega) (by rw [hsn (b := N1) (c := N3) (by omega), hsn (b := N1) (c := N3) (by omega)]; exact (hF.row)) hvA)) ⟨(hsR_3 (by first|(rw [hsy]; done) | (rw [hsy]; rfl))), ?_⟩) (op_bs U sl_26 rfl (by decide) (by decide) [(.int .i64 ((E[k].2.1 : Nat) : Int))] rfl (by simp [Value.cells]) rfl (cs := [(.int .i64 ((E[k].2.1 : Nat) : Int))]) rfl ⟨(hsR_3 ((hsn (b := N3) (c := (N3 + 1)) (by omega)).trans (by first|(rw [hsy]; done) | (rw [hsy]; rfl)))), ?_⟩)
      · refine wh_op U 10 (by kernel_rfl) rfl rfl rfl (op_bs U sl_26 rfl (by decide) (by decide) [(.int .i64 ((E[k].2.1 : Nat) : Int))] rfl (by simp [Value.cells]) rfl (cs := [(.int .i64 ((E[k].2.1 : Nat) : Int))]) rfl ⟨(hsR_3 ((hsn (b := N3) (c := (N3 + 1)) (by omega)).trans (by first|(rw [hsy]; done) | (rw [hsy]; rfl)))), ?_⟩)
        refine wh_op U 11 (by kernel_rfl) rfl rfl rfl (op_append1 U (H0 := _) (cs := csA) (ys := [(.int .i64 ((E[k].2.1 : Nat) : Int))]) sl_26 rfl (by decide) rfl ((hF.fam.sl _ _ _ hvA hcA).at fun c hc => by have := hF.fam.gt _ _ _ hvA hc; rw [hsn (b := c) (c := N3) (by omega), hsn (b := c) (c := N3) (by omega)]) (hF.fam.low hvA (.inr (by omega))) rfl rfl rfl (by omega) (one1 rfl) (by omega) (by omega) ?_)
        intro wA HA NA hNA hslA hfrA hloA
        refine ⟨(hsR_3 ((hfrA N3 (by omega) (hF.fam.low hvA (by omega))).trans ((hsn (b := N3) (c := (N3 + 1)) (by omega)).trans (by first|(rw [hsy]; done) | (rw [hsy]; rfl))))), ?_⟩
        have hbr : HA N1 = some (.row 26 0 vs n) := ((hfrA N1 (by omega) (hF.fam.low hvA (by omega))).trans ((hsn (b := N1) (c := (N3 + 1)) (by omega)).trans (by rw [hsn (b := N1) (c := N3) (by omega), hsn (b := N1) (c := N3) (by omega)]; exact (hF.row))))
        refine wh_rd U 12 rfl (rd_idx1 U (j := E[k].1) sl_25 rfl rfl (show E[k].1 < n by omega)) (by kernel_rfl) (by kernel_rfl) (by kernel_rfl) rfl rfl (hsR_3 ((hfrA N3 (by omega) (hF.fam.low hvA (by omega))).trans ((hsn (b := N3) (c := (N3 + 1)) (by omega)).trans (by first|(rw [hsy]; done) | (rw [hsy]; rfl))))) ?_
        have hon := oneS hslA
        refine wh_op0 U 13 (by kernel_rfl) rfl rfl (op_store1 U el_26 rfl rfl hon.1 hon.2 hbr (by omega) (by rw [hF.len]; simpa using (show E[k].1 < n by omega)) ⟨(hsR_3 ((hsn (b := N3) (c := N1) (by omega)).trans ((hfrA N3 (by omega) (hF.fam.low hvA (by omega))).trans ((hsn (b := N3) (c := (N3 + 1)) (by omega)).trans (by first|(rw [hsy]; done) | (rw [hsy]; rfl)))))), ?_⟩)
        refine wh_done U (by kernel_rfl) ?_
        rw [show 0 + (E[k].1) - 0 = (E[k].1) by omega]
        refine ⟨rfl, ⟨rfl, rfl, rfl, rfl, rfl, rfl, trivial⟩, by omega, ⟨wA, hF.step U hltR hvA (by omega) hNA (by intro c hc; rw [hsn (b := c) (c := (N3 + 1)) (by omega), hsn (b := c) (c := N3) (by omega), hsn (b := c) (c := N3) (by omega)]) hfrA hslA hloA⟩, (hF.frame hvA hfrA (by omega) (by omega)).trans ((hsn (b := N3) (c := (N3 + 1)) (by omega)).trans (by first|(rw [hsy]; done) | (rw [hsy]; rfl)))⟩
      · refine wh_op U 7 (by kernel_rfl) rfl rfl rfl (Rd.opw U (rl1 U el_26 rfl (v := vA) (rd_at U (by omega) ((hsn (b := N1) (c := (N3 + 1)) (by omega)).trans (by rw [hsn (b := N1) (c := N3) (by omega), hsn (b := N1) (c := N3) (by omega)]; exact (hF.row))) hvA)) ⟨(hsR_3 ((hsn (b := N3) (c := (N3 + 1)) (by omega)).trans (by first|(rw [hsy]; done) | (rw [hsy]; rfl)))), ?_⟩)
        refine wh_op U 11 (by kernel_rfl) rfl rfl rfl (op_append1 U (H0 := _) (cs := csA) (ys := [(.int .i64 ((E[k].2.1 : Nat) : Int))]) sl_26 rfl (by decide) rfl ((hF.fam.sl _ _ _ hvA hcA).at fun c hc => by have := hF.fam.gt _ _ _ hvA hc; rw [hsn (b := c) (c := N3) (by omega), hsn (b := c) (c := N3) (by omega)]) (hF.fam.low hvA (.inr (by omega))) rfl rfl rfl (by omega) (one1 rfl) (by omega) (by omega) ?_)
        intro wA HA NA hNA hslA hfrA hloA
        refine ⟨(hsR_3 ((hfrA N3 (by omega) (hF.fam.low hvA (by omega))).trans ((hsn (b := N3) (c := (N3 + 1)) (by omega)).trans (by first|(rw [hsy]; done) | (rw [hsy]; rfl))))), ?_⟩
        have hbr : HA N1 = some (.row 26 0 vs n) := ((hfrA N1 (by omega) (hF.fam.low hvA (by omega))).trans ((hsn (b := N1) (c := (N3 + 1)) (by omega)).trans (by rw [hsn (b := N1) (c := N3) (by omega), hsn (b := N1) (c := N3) (by omega)]; exact (hF.row))))
        refine wh_rd U 12 rfl (rd_idx1 U (j := E[k].1) sl_25 rfl rfl (show E[k].1 < n by omega)) (by kernel_rfl) (by kernel_rfl) (by kernel_rfl) rfl rfl (hsR_3 ((hfrA N3 (by omega) (hF.fam.low hvA (by omega))).trans ((hsn (b := N3) (c := (N3 + 1)) (by omega)).trans (by first|(rw [hsy]; done) | (rw [hsy]; rfl))))) ?_
        have hon := oneS hslA
        refine wh_op0 U 13 (by kernel_rfl) rfl rfl (op_store1 U el_26 rfl rfl hon.1 hon.2 hbr (by omega) (by rw [hF.len]; simpa using (show E[k].1 < n by omega)) ⟨(hsR_3 ((hsn (b := N3) (c := N1) (by omega)).trans ((hfrA N3 (by omega) (hF.fam.low hvA (by omega))).trans ((hsn (b := N3) (c := (N3 + 1)) (by omega)).trans (by first|(rw [hsy]; done) | (rw [hsy]; rfl)))))), ?_⟩)
        refine wh_done U (by kernel_rfl) ?_
        rw [show 0 + (E[k].1) - 0 = (E[k].1) by omega]
        refine ⟨rfl, ⟨rfl, rfl, rfl, rfl, rfl, rfl, trivial⟩, by omega, ⟨wA, hF.step U hltR hvA (by omega) hNA (by intro c hc; rw [hsn (b := c) (c := (N3 + 1)) (by omega), hsn (b := c) (c := N3) (by omega), hsn (b := c) (c := N3) (by omega)]) hfrA hslA hloA⟩, (hF.frame hvA hfrA (by omega) (by omega)).trans ((hsn (b := N3) (c := (N3 + 1)) (by omega)).trans (by first|(rw [hsy]; done) | (rw [hsy]; rfl)))⟩
    rintro TA HA NA ⟨hTA, hNA, ⟨v2A, hF1⟩, huA⟩
    obtain ⟨J, rfl⟩ := hTA.ex
    rw [addN_nats hcA] at hF1
    have hX1 := addN_len (u := E[k].1) (y := E[k].2.1) hX0
    obtain ⟨vB, csB, hvB, hcB⟩ := hF1.get (show E[k].2.1 < n by omega)
    have hbB := nats_bound hX1 hcB
    repeat (first|refine nt ?_|refine nq ?_|refine wq U ?_)
    refine wc_mid U (fun T' H' N' => Has T' [(1, (.pointer (some ⟨N, 0, none⟩))), (3, (.slice (some ⟨N1, 0, none⟩) n n)), (15, (.slice (some ⟨b, off, none⟩) E.length cap)), (16, (.int .i64 ((E.length : Nat) : Int))), (17, (.int .i64 ((k : Nat) : Int))), (5, (.pointer (some ⟨N3, 0, none⟩)))] ∧ NA ≤ N' ∧ (∃ v2, Famo R H' N1 26 3 1 n N' ((vs.set E[k].1 v2A).set E[k].2.1 v2) (((addN (nearAcc n (E.take k)) E[k].1 E[k].2.1).map nats).set E[k].2.1 (csB ++ [(.int .i64 ((E[k].1 : Nat) : Int))]))) ∧ H' N3 = some (.row 43 0 [(.int .i64 ((E[k].1 : Nat) : Int)), (.int .i64 ((E[k].2.1 : Nat) : Int)), (.int .i64 (E[k].2.2))] 3)) ?_ ?_
    · have hblt := hF1.lt
      obtain ⟨R_4, hR_4⟩ : ∃ R, ofl [(N3, .row 43 0 [(.int .i64 ((E[k].1 : Nat) : Int)), (.int .i64 ((E[k].2.1 : Nat) : Int)), (.int .i64 (E[k].2.2))] 3)] = R := ⟨_, rfl⟩
      have hsR_4 : ∀ {X : Hp}, X N3 = some (.row 43 0 [(.int .i64 ((E[k].1 : Nat) : Int)), (.int .i64 ((E[k].2.1 : Nat) : Int)), (.int .i64 (E[k].2.2))] 3) → Sub R_4 X := fun {X} h0 => hR_4 ▸ sub_ofl (H := X) (by intro p hp; simp only [List.mem_singleton] at hp; subst hp; exact h0)
      have hxR_4 : R_4 N3 = some (.row 43 0 [(.int .i64 ((E[k].1 : Nat) : Int)), (.int .i64 ((E[k].2.1 : Nat) : Int)), (.int .i64 (E[k].2.2))] 3) := by rw [← hR_4]; exact hsy
      refine wc_draw U R_4 mixed ?_
      refine wh_rd U 0 rfl ((rm U).to (v' := (.slice (some ⟨N1, 0, none⟩) n n)) rfl) (by kernel_rfl) (by kernel_rfl) (by kernel_rfl) rfl rfl (hsR_4 huA) ?_
      refine wh_rd U 1 rfl ((rfa U fb_43_1 rfl).to (v' := (.pointer (some ⟨N3, 1, none⟩))) rfl) (by kernel_rfl) (by kernel_rfl) (by kernel_rfl) rfl rfl (hsR_4 huA) ?_
      refine wh_rd U 2 rfl (rl1 U el_3 rfl (v := (.int .i64 ((E[k].2.1 : Nat) : Int))) (by rw [rrw U (by omega) hxR_4]; rfl)) (by kernel_rfl) (by kernel_rfl) (by kernel_rfl) rfl rfl (hsR_4 huA) ?_
      refine wh_rd U 3 rfl ((rm U).to (v' := (.slice (some ⟨N1, 0, none⟩) n n)) rfl) (by kernel_rfl) (by kernel_rfl) (by kernel_rfl) rfl rfl (hsR_4 huA) ?_
      refine wh_rd U 4 rfl ((rfa U fb_43_1 rfl).to (v' := (.pointer (some ⟨N3, 1, none⟩))) rfl) (by kernel_rfl) (by kernel_rfl) (by kernel_rfl) rfl rfl (hsR_4 huA) ?_
      refine wh_rd U 5 rfl (rl1 U el_3 rfl (v := (.int .i64 ((E[k].2.1 : Nat) : Int))) (by rw [rrw U (by omega) hxR_4]; rfl)) (by kernel_rfl) (by kernel_rfl) (by kernel_rfl) rfl rfl (hsR_4 huA) ?_
      refine wh_rd U 6 rfl (rd_idx1 U (j := E[k].2.1) sl_25 rfl rfl (by omega)) (by kernel_rfl) (by kernel_rfl) (by kernel_rfl) rfl rfl (hsR_4 huA) ?_
      refine wh_rd U 8 rfl ((rfa U fb_43_0 rfl).to (v' := (.pointer (some ⟨N3, 0, none⟩))) rfl) (by kernel_rfl) (by kernel_rfl) (by kernel_rfl) rfl rfl (hsR_4 huA) ?_
      refine wh_rd U 9 rfl (rl1 U el_3 rfl (v := (.int .i64 ((E[k].1 : Nat) : Int))) (by rw [rrw U (by omega) hxR_4]; rfl)) (by kernel_rfl) (by kernel_rfl) (by kernel_rfl) rfl rfl (hsR_4 huA) ?_
      refine wh_two U 7 10 (by kernel_rfl) rfl rfl rfl rfl rfl rfl (Rd.opw U (rl1 U el_26 rfl (v := vB) (rd_at U (by omega) (hF1.row) hvB)) ⟨(hsR_4 huA), ?_⟩) (op_bs U sl_26 rfl (by decide) (by decide) [(.int .i64 ((E[k].1 : Nat) : Int))] rfl (by simp [Value.cells]) rfl (cs := [(.int .i64 ((E[k].1 : Nat) : Int))]) rfl ⟨(hsR_4 ((hsn (b := N3) (c := NA) (by omega)).trans huA)), ?_⟩)
      · refine wh_op U 10 (by kernel_rfl) rfl rfl rfl (op_bs U sl_26 rfl (by decide) (by decide) [(.int .i64 ((E[k].1 : Nat) : Int))] rfl (by simp [Value.cells]) rfl (cs := [(.int .i64 ((E[k].1 : Nat) : Int))]) rfl ⟨(hsR_4 ((hsn (b := N3) (c := NA) (by omega)).trans huA)), ?_⟩)
        refine wh_op U 11 (by kernel_rfl) rfl rfl rfl (op_append1 U (H0 := _) (cs := csB) (ys := [(.int .i64 ((E[k].1 : Nat) : Int))]) sl_26 rfl (by decide) rfl (hF1.fam.sl _ _ _ hvB hcB) (hF1.fam.low hvB (.inr (by omega))) rfl rfl rfl (by omega) (one1 rfl) (by omega) (by omega) ?_)
        intro wB HB NB hNB hslB hfrB hloB
        refine ⟨(hsR_4 ((hfrB N3 (by omega) (hF1.fam.not hvB huA (by decide))).trans ((hsn (b := N3) (c := NA) (by omega)).trans huA))), ?_⟩
        have hbr : HB N1 = some (.row 26 0 (vs.set E[k].1 v2A) n) := ((hfrB N1 (by omega) (hF1.fam.low hvB (by omega))).trans ((hsn (b := N1) (c := NA) (by omega)).trans (hF1.row)))
        refine wh_rd U 12 rfl (rd_idx1 U (j := E[k].2.1) sl_25 rfl rfl (show E[k].2.1 < n by omega)) (by kernel_rfl) (by kernel_rfl) (by kernel_rfl) rfl rfl (hsR_4 ((hfrB N3 (by omega) (hF1.fam.not hvB huA (by decide))).trans ((hsn (b := N3) (c := NA) (by omega)).trans huA))) ?_
        have hon := oneS hslB
        refine wh_op0 U 13 (by kernel_rfl) rfl rfl (op_store1 U el_26 rfl rfl hon.1 hon.2 hbr (by omega) (by rw [hF1.len]; simpa using (show E[k].2.1 < n by omega)) ⟨(hsR_4 ((hsn (b := N3) (c := N1) (by omega)).trans ((hfrB N3 (by omega) (hF1.fam.not hvB huA (by decide))).trans ((hsn (b := N3) (c := NA) (by omega)).trans huA)))), ?_⟩)
        refine wh_done U (by kernel_rfl) ?_
        rw [show 0 + (E[k].2.1) - 0 = (E[k].2.1) by omega]
        refine ⟨rfl, ⟨rfl, rfl, rfl, rfl, rfl, rfl, trivial⟩, by omega, ⟨wB, hF1.step U hltR hvB (by omega) hNB (by intro c hc; rw [hsn (b := c) (c := NA) (by omega)]) hfrB hslB hloB⟩, (hF1.frame2 hvB hfrB (by omega) (hF1.fam.not hvB huA (by decide)) (by omega)).trans ((hsn (b := N3) (c := NA) (by omega)).trans huA)⟩
      · refine wh_op U 7 (by kernel_rfl) rfl rfl rfl (Rd.opw U (rl1 U el_26 rfl (v := vB) (rd_at U (by omega) ((hsn (b := N1) (c := NA) (by omega)).trans (hF1.row)) hvB)) ⟨(hsR_4 ((hsn (b := N3) (c := NA) (by omega)).trans huA)), ?_⟩)
        refine wh_op U 11 (by kernel_rfl) rfl rfl rfl (op_append1 U (H0 := _) (cs := csB) (ys := [(.int .i64 ((E[k].1 : Nat) : Int))]) sl_26 rfl (by decide) rfl (hF1.fam.sl _ _ _ hvB hcB) (hF1.fam.low hvB (.inr (by omega))) rfl rfl rfl (by omega) (one1 rfl) (by omega) (by omega) ?_)
        intro wB HB NB hNB hslB hfrB hloB
        refine ⟨(hsR_4 ((hfrB N3 (by omega) (hF1.fam.not hvB huA (by decide))).trans ((hsn (b := N3) (c := NA) (by omega)).trans huA))), ?_⟩
        have hbr : HB N1 = some (.row 26 0 (vs.set E[k].1 v2A) n) := ((hfrB N1 (by omega) (hF1.fam.low hvB (by omega))).trans ((hsn (b := N1) (c := NA) (by omega)).trans (hF1.row)))
        refine wh_rd U 12 rfl (rd_idx1 U (j := E[k].2.1) sl_25 rfl rfl (show E[k].2.1 < n by omega)) (by kernel_rfl) (by kernel_rfl) (by kernel_rfl) rfl rfl (hsR_4 ((hfrB N3 (by omega) (hF1.fam.not hvB huA (by decide))).trans ((hsn (b := N3) (c := NA) (by omega)).trans huA))) ?_
        have hon := oneS hslB
        refine wh_op0 U 13 (by kernel_rfl) rfl rfl (op_store1 U el_26 rfl rfl hon.1 hon.2 hbr (by omega) (by rw [hF1.len]; simpa using (show E[k].2.1 < n by omega)) ⟨(hsR_4 ((hsn (b := N3) (c := N1) (by omega)).trans ((hfrB N3 (by omega) (hF1.fam.not hvB huA (by decide))).trans ((hsn (b := N3) (c := NA) (by omega)).trans huA)))), ?_⟩)
        refine wh_done U (by kernel_rfl) ?_
        rw [show 0 + (E[k].2.1) - 0 = (E[k].2.1) by omega]
        refine ⟨rfl, ⟨rfl, rfl, rfl, rfl, rfl, rfl, trivial⟩, by omega, ⟨wB, hF1.step U hltR hvB (by omega) hNB (by intro c hc; rw [hsn (b := c) (c := NA) (by omega)]) hfrB hslB hloB⟩, (hF1.frame2 hvB hfrB (by omega) (hF1.fam.not hvB huA (by decide)) (by omega)).trans ((hsn (b := N3) (c := NA) (by omega)).trans huA)⟩
    rintro TB HB NB ⟨hTB, hNB, ⟨v2B, hF2⟩, huB⟩
    obtain ⟨J, rfl⟩ := hTB.ex
    rw [addN_nats hcB, ← nearAcc_succ n E hk1] at hF2
    repeat (first|refine nt ?_|refine nq ?_)
    repeat (first|refine nt ?_|refine nq ?_|refine wq U ?_)
    refine wg U ?_
    refine wr U (rd_add U rfl rfl (by omega) (by omega)) rfl rfl ?_
    refine wr U ((rm U).to (v' := (.int .i64 (((k : Nat) : Int) + 1))) rfl) rfl rfl ?_
    refine wz U ?_
    repeat (first|refine nt ?_|refine nq ?_)
    exact ⟨E.length - (k + 1), by omega, k + 1, _, by omega, rfl, ⟨rfl, rfl, rfl, rfl, rfl, trivial⟩, hF2⟩
  · replace hc := of_decide_eq_false hc
    refine wc_exit U ?_
    repeat (first|refine xt ?_|refine xps (by decide) ?_)
    refine xbl ?_
    repeat (first|refine nt ?_|refine nq ?_)
    obtain rfl : k = E.length := by omega
    rw [List.take_length] at hF
    repeat (first|refine nt ?_|refine nq ?_|refine wq U ?_)
    refine wg U ?_
    refine wr U ((rm U).to (v' := (.slice (some ⟨N1, 0, none⟩) n n)) rfl) rfl rfl ?_
    refine wr U ((rd_len' U sl_25 rfl).to (v' := (.int .i64 ((n : Nat) : Int))) rfl) rfl rfl ?_
    refine wr U ((rm U).to (v' := (.int .i64 0)) rfl) rfl rfl ?_
    refine wz U ?_
    repeat (first|refine nt ?_|refine nq ?_|refine wq U ?_)
    refine wc_block U ?_
    refine wc_loop U (fun m T H' N' => ∃ (k : Nat) (vs : List Value), k ≤ n ∧ m = n - k ∧ Has T [(3, (.slice (some ⟨N1, 0, none⟩) n n)), (48, (.slice (some ⟨N1, 0, none⟩) n n)), (49, (.int .i64 ((n : Nat) : Int))), (50, (.int .i64 ((k : Nat) : Int)))] ∧ Famo R H' N1 26 3 1 n N' vs ((upto k (nearAcc n E)).map nats)) n ⟨0, _, Nat.zero_le _, rfl, ⟨rfl, rfl, rfl, rfl, trivial⟩, by rw [upto_zero]; exact hF⟩ ?_
    rintro m T H4 N4 ⟨k, vs, hk, rfl, hT, hF⟩
    obtain ⟨J, rfl⟩ := hT.ex
    have hlt4 := hF.lt
    repeat (first|refine nt ?_|refine nq ?_|refine wq U ?_)
    refine wg U ?_
    refine wr U (rd_lss U rfl rfl) rfl rfl ?_
    refine wz U ?_
    repeat (first|refine nt ?_|refine nq ?_|refine wq U ?_)
    refine wcd U (t := (decide (((k : Nat) : Int) < ((n : Nat) : Int)))) rfl (fun hc => ?_) fun hc => ?_
    · replace hc := of_decide_eq_true hc
      refine wsk U ?_
      repeat (first|refine nt ?_|refine nq ?_)
      have hk1 : k < n := by omega
      obtain ⟨v1, cs1, hv1, hc1⟩ := hF.get hk1
      have hkn : k < (nearAcc n E).length := by rw [nearAcc_length]; exact hk1
      have hX := upto_get (nearAcc n E) (k := k) hkn
      rw [List.getElem?_map, hX] at hc1; cases hc1
      have hbA : ∀ xs ∈ nearAcc n E, xs.length ≤ 2000 := fun xs hx => by have := nearAcc_len n _ xs hx; omega
      repeat (first|refine nt ?_|refine nq ?_|refine wq U ?_)
      refine wc_block U ?_
      repeat (first|refine nt ?_|refine nq ?_|refine wq U ?_)
      refine wg U ?_
      refine wr U (rd_idx1 U (j := k) sl_25 rfl rfl (by omega)) rfl rfl ?_
      refine wr U (rl1 U el_26 rfl (v := v1) (rd_at U (by omega) hF.row hv1)) rfl rfl ?_
      refine wr U ((ra U).to (v' := v1) rfl) rfl rfl ?_
      refine wz U ?_
      repeat (first|refine nt ?_|refine nq ?_|refine wq U ?_)
      refine wg U ?_
      refine wr U ((rm U).to (v' := v1) rfl) rfl rfl ?_
      refine wl_op U rfl rfl (op_call U Tryz.f22 rfl rfl pf_22 (by kernel_rfl) (by kernel_rfl) ((s22 U v1 (nearAcc n E)[k] _ _ (hF.fam.sl _ _ _ hv1 (by rw [List.getElem?_map, hX]; rfl)) (by have := hbA _ (List.getElem_mem (by rw [nearAcc_length]; exact hk1)); omega)).mono U ?_))
      rintro _ H5 N5 ⟨rfl, hN5, hsl5, hfr5⟩
      refine wz U ?_
      repeat (first|refine nt ?_|refine nq ?_)
      repeat (first|refine nt ?_|refine nq ?_|refine wq U ?_)
      refine wg U ?_
      refine wr U (rd_add U rfl rfl (by omega) (by omega)) rfl rfl ?_
      refine wr U ((rm U).to (v' := (.int .i64 (((k : Nat) : Int) + 1))) rfl) rfl rfl ?_
      refine wz U ?_
      repeat (first|refine nt ?_|refine nq ?_)
      have hF5 := hF.turn U hltR hv1 hN5 hsl5 hfr5
      rw [← List.map_set, upto_succ _ (by rw [nearAcc_length]; exact hk1)] at hF5
      exact ⟨n - (k + 1), by omega, k + 1, _, by omega, rfl, ⟨rfl, rfl, rfl, rfl, trivial⟩, hF5⟩
    · replace hc := of_decide_eq_false hc
      refine wc_exit U ?_
      repeat (first|refine xt ?_|refine xps (by decide) ?_)
      refine xbl ?_
      repeat (first|refine nt ?_|refine nq ?_)
      have hkn : k = n := by omega
      rw [hkn, upto_all _ (by rw [nearAcc_length]; exact Nat.le_refl _)] at hF
      repeat (first|refine nt ?_|refine nq ?_|refine wq U ?_)
      refine wg U ?_
      refine wr U ((rm U).to (v' := (.slice (some ⟨N1, 0, none⟩) n n)) rfl) rfl rfl ?_
      refine wr U ((ra U).to (v' := (.slice (some ⟨N1, 0, none⟩) n n)) rfl) rfl rfl ?_
      refine wz U ?_
      refine wc_own U fun hBN4 hlt4b => ?_
      refine wc_ret U ?_
      repeat (first|refine ret1 ?_|refine ret2 ?_)
      exact end1 U (.inl rfl) rfl (v := (.slice (some ⟨N1, 0, none⟩) n n)) rfl ⟨(hF.fam.keep2 (H2 := from_ N _) (fun i v c hv hb => from_at (by have := hF.fam.gt i v c hv hb; omega)) (Nat.le_refl _)).rd2 U (fun b o e => (hlt4b b o (from_sub b o e)).1) ((from_at (by omega)).trans hF.row) hF.len, (((Sub.refl _).hset (fresh hlt (by omega))).trans hs1).trans hF.sub, by omega⟩
theorem s61 (n : Nat) (E : List NE) (sv : Value) (hg : GOk n E) (H : Hp) (N : Nat) (hv : RdS U H sv 3 (necs E)) : Spec U 61 #[(.agg #[(.int .i64 ((n : Nat) : Int)), sv])] H N (fun v H' N' => Rd2 U H' v (nearL n E) ∧ Sub H H' ∧ N ≤ N') :=
  (s61f U n E sv hg H N hv).mono U fun v H' N' h => ⟨h.1.sub U from_sub, h.2⟩
end Go.Proofs.YtdmodppoellbkaaGreat
namespace Go.Proofs.YtdmodppoellbkaaGreat
open Go Go.RowKit
variable (U : Cx)
def acs : List (Nat × Nat) → List Value
  | [] => []
  | a :: l => .int .i64 ((a.1 : Nat) : Int) :: .int .i64 ((a.2 : Nat) : Int) :: acs l
theorem acs_length (l : List (Nat × Nat)) : (acs l).length = l.length * 2 := by
  induction l with
  | nil => rfl
  | cons e l ih => simp only [acs, List.length_cons, ih]; omega
theorem acs_append (l m : List (Nat × Nat)) : acs (l ++ m) = acs l ++ acs m := by
  induction l with
  | nil => rfl
  | cons e l ih => simp [acs, ih]
theorem acs_get (l : List (Nat × Nat)) : ∀ {j : Nat} (h : j < l.length), (acs l)[j * 2]? = some (.int .i64 ((l[j].1 : Nat) : Int)) ∧ (acs l)[j * 2 + 1]? = some (.int .i64 ((l[j].2 : Nat) : Int)) := by
  induction l with
  | nil => intro j h; simp at h
  | cons e l ih =>
    intro j h
    cases j with
    | zero => simp [acs]
    | succ j =>
      have := ih (j := j) (by simpa using h)
      rw [show (j + 1) * 2 = j * 2 + 2 by omega]
      simp only [acs, List.getElem_cons_succ]
      exact this
theorem addN_acs {X : List (List (Nat × Nat))} {u y i : Nat} {cs : List Value} (h : (X.map acs)[u]? = some cs) : (X.map acs).set u (cs ++ [.int .i64 ((y : Nat) : Int), .int .i64 ((i : Nat) : Int)]) = (addN X u (y, i)).map acs := by
  rw [List.getElem?_map] at h
  cases hx : X[u]? with
  | none => rw [hx] at h; cases h
  | some xs =>
    rw [hx] at h; cases h
    simp [addN, List.map_set, List.getD_eq_getElem?_getD, hx, acs_append, acs]
theorem acs_bound {X : List (List (Nat × Nat))} {L u : Nat} {cs : List Value} (hX : ∀ xs ∈ X, xs.length ≤ L) (h : (X.map acs)[u]? = some cs) : cs.length ≤ L * 2 := by
  rw [List.getElem?_map] at h
  cases hx : X[u]? with
  | none => rw [hx] at h; cases h
  | some xs => rw [hx] at h; cases h; rw [acs_length]; have := hX xs (List.mem_of_getElem? hx); omega
def arcStep (E : List NE) (X : List (List (Nat × Nat))) (i : Nat) : List (List (Nat × Nat)) :=
  match E[i]? with
  | some e => addN (addN X e.1 (e.2.1, i)) e.2.1 (e.1, i)
  | none => X
def arcAcc (n : Nat) (E : List NE) (k : Nat) : List (List (Nat × Nat)) := (List.range k).foldl (arcStep E) (List.replicate n [])
theorem arcAcc_succ (n : Nat) (E : List NE) {k : Nat} (hk : k < E.length) : arcAcc n E (k + 1) = addN (addN (arcAcc n E k) E[k].1 (E[k].2.1, k)) E[k].2.1 (E[k].1, k) := by
  rw [arcAcc, List.range_succ, List.foldl_append, List.foldl_cons, List.foldl_nil, arcStep, List.getElem?_eq_getElem hk]; rfl
theorem arcAcc_length (n : Nat) (E : List NE) (k : Nat) : (arcAcc n E k).length = n := by
  induction k with
  | zero => simp [arcAcc]
  | succ k ih =>
    rw [arcAcc, List.range_succ, List.foldl_append, List.foldl_cons, List.foldl_nil, arcStep]
    cases E[k]? with
    | none => exact ih
    | some e => simp only [addN_length]; exact ih
theorem arcAcc_len (n : Nat) (E : List NE) (k : Nat) : ∀ xs ∈ arcAcc n E k, xs.length ≤ 2 * k := by
  induction k with
  | zero => intro xs hx; rw [arcAcc, List.range_zero, List.foldl_nil, List.mem_replicate] at hx; rw [hx.2]; simp
  | succ k ih =>
    rw [arcAcc, List.range_succ, List.foldl_append, List.foldl_cons, List.foldl_nil, arcStep]
    cases E[k]? with
    | none => intro xs hx; have := ih xs hx; omega
    | some e => intro xs hx; have := addN_len (addN_len ih) xs hx; omega
def arcsL (n : Nat) (E : List NE) : List (List (Nat × Nat)) := arcAcc n E E.length
/-- Lists of arcs that can be read. -/
def RdA (F : Hp) (v : Value) (xss : List (List (Nat × Nat))) : Prop :=
  ∃ vs, RdS U F v 1 vs ∧ vs.length = xss.length ∧ ∀ (i : Nat) (u : Value) (xs : List (Nat × Nat)), vs[i]? = some u → xss[i]? = some xs → RdS U F u 2 (acs xs)
theorem RdA.sub {F H : Hp} {v : Value} {xss : List (List (Nat × Nat))} (h : RdA U F v xss) (hs : Sub F H) : RdA U H v xss := by
  obtain ⟨vs, h1, h2, h3⟩ := h
  exact ⟨vs, h1.sub U hs, h2, fun i u xs hu hx => (h3 i u xs hu hx).sub U hs⟩
theorem Fam.rdA {H : Hp} {b e N tot n : Nat} {vs : List Value} {xss : List (List (Nat × Nat))} (h : Fam H b 91 2 N vs (xss.map acs)) (hB : ∀ b o, H b = some o → U.B ≤ b) (hb : H b = some (.row e 0 vs tot)) (hn : vs.length = n) :
    RdA U H (.slice (some ⟨b, 0, none⟩) n n) xss := by
  refine ⟨vs, row_rds U (hB _ _ hb) hb hn (Nat.le_refl _), by rw [h.len]; simp, fun i u xs hu hx => ?_⟩
  exact (h.sl i u (acs xs) hu (by rw [List.getElem?_map, hx]; rfl)).rds U hB
theorem RdS.arcs {F : Hp} {v : Value} {l : List (Nat × Nat)} (h : RdS U F v 2 (acs l)) : ∃ p cap, v = .slice p l.length cap ∧ l.length ≤ cap ∧ (0 < l.length → ∃ b off, p = some ⟨b, off, none⟩) := by
  obtain ⟨p, k, cap, rfl, hkc, hl, hp⟩ := h.out U
  rw [acs_length] at hl
  obtain rfl : l.length = k := by omega
  exact ⟨p, cap, rfl, hkc, hp⟩
theorem RdS.a0 {F : Hp} {b off k cap : Nat} {l : List (Nat × Nat)} (h : RdS U F (.slice (some ⟨b, off, none⟩) k cap) 2 (acs l)) {j : Nat} (hj : j < l.length) : rd U F b (off + j * 2) = some (.int .i64 ((l[j].1 : Nat) : Int)) := h.get U (acs_get l hj).1
theorem RdS.a1 {F : Hp} {b off k cap : Nat} {l : List (Nat × Nat)} (h : RdS U F (.slice (some ⟨b, off, none⟩) k cap) 2 (acs l)) {j : Nat} (hj : j < l.length) : rd U F b (off + j * 2 + 1) = some (.int .i64 ((l[j].2 : Nat) : Int)) := h.get U (acs_get l hj).2
/-- One more. -/
theorem Fam.push {H : Hp} {b e sz N : Nat} {vs : List Value} {css : List (List Value)} {v : Value} {cs : List Value} (h : Fam H b e sz N vs css) (hsl : IsSl H v e sz cs) (hb : ∀ c, blkOf v = some c → b < c ∧ c < N)
    (hn : ∀ (i : Nat) (u : Value) (c : Nat), vs[i]? = some u → blkOf u = some c → blkOf v ≠ some c) : Fam H b e sz N (vs ++ [v]) (css ++ [cs]) := by
  have hcase : ∀ (j : Nat) (u : Value), (vs ++ [v])[j]? = some u → vs[j]? = some u ∨ (j = vs.length ∧ u = v) := by
    intro j u hu
    rw [List.getElem?_append] at hu
    split at hu
    · exact .inl hu
    · rename_i hj
      have : j - vs.length = 0 := by
        rcases Nat.eq_zero_or_pos (j - vs.length) with h0 | h0
        · exact h0
        · rw [List.getElem?_eq_none (by simp; omega)] at hu; cases hu
      rw [this] at hu; simp at hu
      exact .inr ⟨by omega, hu.symm⟩
  refine ⟨by simp [h.len], ?_, ?_, ?_⟩
  · intro j u cs' hu hc
    rcases hcase j u hu with hu' | ⟨rfl, rfl⟩
    · have hj : j < vs.length := by
        rcases Nat.lt_or_ge j vs.length with h' | h'
        · exact h'
        · rw [List.getElem?_eq_none h'] at hu'; cases hu'
      rw [List.getElem?_append_left (by rw [← h.len]; exact hj)] at hc
      exact h.sl j u cs' hu' hc
    · rw [h.len, List.getElem?_append_right (Nat.le_refl _), Nat.sub_self] at hc; simp at hc; subst hc; exact hsl
  · intro j u c hu hbu
    rcases hcase j u hu with hu' | ⟨rfl, rfl⟩
    · exact h.gt j u c hu' hbu
    · exact hb c hbu
  · intro i j u u' c hu hu' hbu hbu'
    rcases hcase i u hu with h1 | ⟨rfl, rfl⟩ <;> rcases hcase j u' hu' with h2 | ⟨rfl, rfl⟩
    · exact h.ne i j u u' c h1 h2 hbu hbu'
    · exact absurd hbu' (hn i u c h1 hbu)
    · exact absurd hbu (hn j u' c h2 hbu')
    · rfl
def bools (l : List Bool) : List Value := l.map Value.bool
theorem bools_length (l : List Bool) : (bools l).length = l.length := by simp [bools]
theorem bools_get {l : List Bool} {k : Nat} {b : Bool} (h : l[k]? = some b) : (bools l)[k]? = some (.bool b) := by simp [bools, h]
theorem bools_set (l : List Bool) (k : Nat) (b : Bool) : (bools l).set (0 + k - 0) (.bool b) = bools (l.set k b) := by rw [Nat.zero_add, Nat.sub_zero]; simp [bools, List.map_set]
theorem bools_rep (n : Nat) : List.replicate n (Value.bool false) = bools (List.replicate n false) := by simp [bools]
theorem IsSl.blk {H : Hp} {v : Value} {e sz : Nat} {cs : List Value} (h : IsSl H v e sz cs) {c : Nat} (hc : blkOf v = some c) : ∃ off tot, H c = some (.row e off cs tot) := by
  rcases h with ⟨rfl, _⟩ | ⟨b, off, k, cap, tot, rfl, h2, _⟩
  · cases hc
  · cases hc; exact ⟨_, _, h2⟩
end Go.Proofs.YtdmodppoellbkaaGreat
namespace Go.Proofs.YtdmodppoellbkaaGreat
open Go Go.RowKit
variable (U : Cx)
theorem s54 (n : Nat) (E : List NE) (sv : Value) (hg : GOk n E) (H : Hp) (N : Nat) (hv : RdS U H sv 3 (necs E)) : Spec U 54 #[(.agg #[(.int .i64 ((n : Nat) : Int)), sv])] H N (fun v H' N' => RdA U H' v (arcsL n E) ∧ Sub H H' ∧ N ≤ N') := by
  obtain ⟨p, cap, rfl, hc, hp⟩ := hv.edges U
  refine spa U pf_54 (m := 49) rfl rfl (by simp) fun hBN hlt => ?_
  obtain ⟨J, hJ⟩ := Has.ex (T := argsT #[(.agg #[(.int .i64 ((n : Nat) : Int)), (.slice p E.length cap)])]) (l := [(0, (.agg #[(.int .i64 ((n : Nat) : Int)), (.slice p E.length cap)]))]) ⟨rfl, trivial⟩
  rw [hJ]; clear hJ
  have hn64 := hg.hn; have hm := hg.hm
  repeat (first|refine nt ?_|refine nq ?_|refine wq U ?_)
  refine wg U ?_
  refine wl_op U rfl rfl (op_box U rfl rfl ?_)
  refine wr U ((ra U).to (v' := (.slice none 0 0)) rfl) rfl rfl ?_
  refine wz U ?_
  refine wc_gen U (fun R => R N = some (.row 24 0 [(.int .i64 ((n : Nat) : Int)), (.slice p E.length cap)] 2) ∧ Sub _ R) ⟨(by first|(rw [hsy]; done) | (rw [hsy]; rfl)), ((Sub.refl _).hset (fresh hlt (by omega)))⟩ ?_
  rintro R ⟨hx_1, hsR⟩ hBNR hltR
  repeat (first|refine nt ?_|refine nq ?_|refine wq U ?_)
  refine wg U ?_
  refine wr U ((rfa U fb_24_0 rfl).to (v' := (.pointer (some ⟨N, 0, none⟩))) rfl) rfl rfl ?_
  refine wr U (rl1 U el_3 rfl (v := (.int .i64 ((n : Nat) : Int))) (by rw [rrw U (by omega) hx_1]; rfl)) rfl rfl ?_
  refine wl_op U rfl rfl (op_makeSlice U (m := n) (v := .slice none 0 0) sl_87 rfl rfl rfl (by omega) (by omega) ?_)
  refine wr U ((ra U).to (v' := (.slice (some ⟨(N + 1), 0, none⟩) n n)) rfl) rfl rfl ?_
  refine wz U ?_
  refine wc_gen U (fun H2 => Famo R H2 (N + 1) 89 91 2 n (N + 1 + 1) (List.replicate n (.slice none 0 0)) ((List.replicate n []).map acs)) ⟨by simpa [acs] using Fam.fresh _ (N + 1) 91 2 (N + 1 + 1) n, hsy, by simp, (Sub.refl R).hset (fresh hltR (by omega)), by omega⟩ ?_
  rintro H2 hF0 hBN2 hlt2
  repeat (first|refine nt ?_|refine nq ?_|refine wq U ?_)
  refine wg U ?_
  refine wr U ((rfa U fb_24_1 rfl).to (v' := (.pointer (some ⟨N, 1, none⟩))) rfl) rfl rfl ?_
  refine wr U (rl1 U el_22 rfl (v := (.slice p E.length cap)) (by rw [rrw U (by omega) (hF0.sub _ _ hx_1)]; rfl)) rfl rfl ?_
  refine wr U ((rd_len' U sl_22 rfl).to (v' := (.int .i64 ((E.length : Nat) : Int))) rfl) rfl rfl ?_
  refine wr U ((rm U).to (v' := (.int .i64 0)) rfl) rfl rfl ?_
  refine wz U ?_
  repeat (first|refine nt ?_|refine nq ?_|refine wq U ?_)
  refine wc_block U ?_
  refine wc_loop U (fun m T H' N' => ∃ (k : Nat) (vs : List Value), k ≤ E.length ∧ m = E.length - k ∧ Has T [(1, (.pointer (some ⟨N, 0, none⟩))), (3, (.slice (some ⟨(N + 1), 0, none⟩) n n)), (10, (.slice p E.length cap)), (11, (.int .i64 ((E.length : Nat) : Int))), (12, (.int .i64 ((k : Nat) : Int)))] ∧ Famo R H' (N + 1) 89 91 2 n N' vs ((arcAcc n E k).map acs)) E.length ⟨0, _, Nat.zero_le _, rfl, ⟨rfl, rfl, rfl, rfl, rfl, trivial⟩, hF0⟩ ?_
  rintro m T H3 N3 ⟨k, vs, hk, rfl, hT, hF⟩
  obtain ⟨J, rfl⟩ := hT.ex
  have hlt3 := hF.lt
  repeat (first|refine nt ?_|refine nq ?_|refine wq U ?_)
  refine wg U ?_
  refine wr U (rd_lss U rfl rfl) rfl rfl ?_
  refine wz U ?_
  repeat (first|refine nt ?_|refine nq ?_|refine wq U ?_)
  refine wcd U (t := (decide (((k : Nat) : Int) < ((E.length : Nat) : Int)))) rfl (fun hc => ?_) fun hc => ?_
  · replace hc := of_decide_eq_true hc
    refine wsk U ?_
    repeat (first|refine nt ?_|refine nq ?_)
    have hk1 : k < E.length := by omega
    obtain ⟨b, off, rfl⟩ := hp (by omega)
    have hv1 := (hv.sub U hsR).sub U hF.sub
    have he := hg.at hk1
    repeat (first|refine nt ?_|refine nq ?_|refine wq U ?_)
    refine wc_block U ?_
    repeat (first|refine nt ?_|refine nq ?_|refine wq U ?_)
    refine wg U ?_
    refine wr U ((rm U).to (v' := (.int .i64 ((k : Nat) : Int))) rfl) rfl rfl ?_
    refine wr U (rd_idxN U (j := k) sl_22 rfl rfl (by omega)) rfl rfl ?_
    refine wr U (rd_load3 U el_43 rfl (v0 := (.int .i64 ((E[k].1 : Nat) : Int))) (v1 := (.int .i64 ((E[k].2.1 : Nat) : Int))) (v2 := (.int .i64 (E[k].2.2)))  (RdS.e0 U hv1 hk1) (RdS.e1 U hv1 hk1) (RdS.e2 U hv1 hk1)) rfl rfl ?_
    refine wl_op U rfl rfl (op_alloc U z_43 rfl ?_)
    refine wr U ((ra U).to (v' := (.int .i64 ((k : Nat) : Int))) rfl) rfl rfl ?_
    refine wl_op0 U rfl (op_store U (vs := [(.int .i64 ((E[k].1 : Nat) : Int)), (.int .i64 ((E[k].2.1 : Nat) : Int)), (.int .i64 (E[k].2.2))]) (cs := [(.int .i64 0), (.int .i64 0), (.int .i64 0)]) el_43 rfl rfl rfl rfl (one3 rfl rfl rfl) (by first|(rw [hsy]; done) | (rw [hsy]; rfl)) (by omega) (by simp) ?_)
    refine wz U ?_
    have hX0 : ∀ xs ∈ arcAcc n E k, xs.length ≤ 2000 := fun xs hx => by have := arcAcc_len n E k xs hx; omega
    obtain ⟨vA, csA, hvA, hcA⟩ := hF.get (show E[k].1 < n by omega)
    have hbA := acs_bound hX0 hcA
    repeat (first|refine nt ?_|refine nq ?_|refine wq U ?_)
    refine wc_mid U (fun T' H' N' => Has T' [(1, (.pointer (some ⟨N, 0, none⟩))), (3, (.slice (some ⟨(N + 1), 0, none⟩) n n)), (10, (.slice (some ⟨b, off, none⟩) E.length cap)), (11, (.int .i64 ((E.length : Nat) : Int))), (12, (.int .i64 ((k : Nat) : Int))), (5, (.pointer (some ⟨N3, 0, none⟩))), (4, (.int .i64 ((k : Nat) : Int)))] ∧ (N3 + 1) ≤ N' ∧ (∃ v2, Famo R H' (N + 1) 89 91 2 n N' (vs.set E[k].1 v2) (((arcAcc n E k).map acs).set E[k].1 (csA ++ [(.int .i64 ((E[k].2.1 : Nat) : Int)), (.int .i64 ((k : Nat) : Int))]))) ∧ H' N3 = some (.row 43 0 [(.int .i64 ((E[k].1 : Nat) : Int)), (.int .i64 ((E[k].2.1 : Nat) : Int)), (.int .i64 (E[k].2.2))] 3)) ?_ ?_
    · have hblt := hF.lt
      obtain ⟨R_2, hR_2⟩ : ∃ R, ofl [(N3, .row 43 0 [(.int .i64 ((E[k].1 : Nat) : Int)), (.int .i64 ((E[k].2.1 : Nat) : Int)), (.int .i64 (E[k].2.2))] 3)] = R := ⟨_, rfl⟩
      have hsR_2 : ∀ {X : Hp}, X N3 = some (.row 43 0 [(.int .i64 ((E[k].1 : Nat) : Int)), (.int .i64 ((E[k].2.1 : Nat) : Int)), (.int .i64 (E[k].2.2))] 3) → Sub R_2 X := fun {X} h0 => hR_2 ▸ sub_ofl (H := X) (by intro p hp; simp only [List.mem_singleton] at hp; subst hp; exact h0)
      have hxR_2 : R_2 N3 = some (.row 43 0 [(.int .i64 ((E[k].1 : Nat) : Int)), (.int .i64 ((E[k].2.1 : Nat) : Int)), (.int .i64 (E[k].2.2))] 3) := by rw [← hR_2]; exact hsy
      refine wc_draw U R_2 mixed ?_
      refine wh_rd U 0 rfl ((rm U).to (v' := (.slice (some ⟨(N + 1), 0, none⟩) n n)) rfl) (by kernel_rfl) (by kernel_rfl) (by kernel_rfl) rfl rfl (hsR_2 (by first|(rw [hsy]; done) | (rw [hsy]; rfl))) ?_
      refine wh_rd U 1 rfl ((rfa U fb_43_0 rfl).to (v' := (.pointer (some ⟨N3, 0, none⟩))) rfl) (by kernel_rfl) (by kernel_rfl) (by kernel_rfl) rfl rfl (hsR_2 (by first|(rw [hsy]; done) | (rw [hsy]; rfl))) ?_
      refine wh_rd U 2 rfl (rl1 U el_3 rfl (v := (.int .i64 ((E[k].1 : Nat) : Int))) (by rw [rrw U (by omega) hxR_2]; rfl)) (by kernel_rfl) (by kernel_rfl) (by kernel_rfl) rfl rfl (hsR_2 (by first|(rw [hsy]; done) | (rw [hsy]; rfl))) ?_
      refine wh_rd U 3 rfl ((rm U).to (v' := (.slice (some ⟨(N + 1), 0, none⟩) n n)) rfl) (by kernel_rfl) (by kernel_rfl) (by kernel_rfl) rfl rfl (hsR_2 (by first|(rw [hsy]; done) | (rw [hsy]; rfl))) ?_
      refine wh_rd U 4 rfl ((rfa U fb_43_0 rfl).to (v' := (.pointer (some ⟨N3, 0, none⟩))) rfl) (by kernel_rfl) (by kernel_rfl) (by kernel_rfl) rfl rfl (hsR_2 (by first|(rw [hsy]; done) | (rw [hsy]; rfl))) ?_
      refine wh_rd U 5 rfl (rl1 U el_3 rfl (v := (.int .i64 ((E[k].1 : Nat) : Int))) (by rw [rrw U (by omega) hxR_2]; rfl)) (by kernel_rfl) (by kernel_rfl) (by kernel_rfl) rfl rfl (hsR_2 (by first|(rw [hsy]; done) | (rw [hsy]; rfl))) ?_
      refine wh_rd U 6 rfl (rd_idx1 U (j := E[k].1) sl_87 rfl rfl (by omega)) (by kernel_rfl) (by kernel_rfl) (by kernel_rfl) rfl rfl (hsR_2 (by first|(rw [hsy]; done) | (rw [hsy]; rfl))) ?_
      refine wh_rd U 8 rfl ((rfa U fb_43_1 rfl).to (v' := (.pointer (some ⟨N3, 1, none⟩))) rfl) (by kernel_rfl) (by kernel_rfl) (by kernel_rfl) rfl rfl (hsR_2 (by first|(rw [hsy]; done) | (rw [hsy]; rfl))) ?_
      refine wh_rd U 9 rfl (rl1 U el_3 rfl (v := (.int .i64 ((E[k].2.1 : Nat) : Int))) (by rw [rrw U (by omega) hxR_2]; rfl)) (by kernel_rfl) (by kernel_rfl) (by kernel_rfl) rfl rfl (hsR_2 (by first|(rw [hsy]; done) | (rw [hsy]; rfl))) ?_
      refine wh_rd U 10 rfl ((rm U).to (v' := (.int .i64 ((k : Nat) : Int))) rfl) (by kernel_rfl) (by kernel_rfl) (by kernel_rfl) rfl rfl (hsR_2 (by first|(rw [hsy]; done) | (rw [hsy]; rfl))) ?_
      refine wh_rd U 11 rfl (rd_build U (cells := #[(.int .i64 ((E[k].2.1 : Nat) : Int)), (.int .i64 ((k : Nat) : Int))]) (by unfold P; kernel_rfl)) (by kernel_rfl) (by kernel_rfl) (by kernel_rfl) rfl rfl (hsR_2 (by first|(rw [hsy]; done) | (rw [hsy]; rfl))) ?_
      refine wh_two U 7 12 (by kernel_rfl) rfl rfl rfl rfl rfl rfl (Rd.opw U (rl1 U el_89 rfl (v := vA) (rd_at U (by omega) (by rw [hsn (b := (N + 1)) (c := N3) (by omega), hsn (b := (N + 1)) (c := N3) (by omega)]; exact (hF.row)) hvA)) ⟨(hsR_2 (by first|(rw [hsy]; done) | (rw [hsy]; rfl))), ?_⟩) (op_bs U sl_89 rfl (by decide) (by decide) [(.agg #[(.int .i64 ((E[k].2.1 : Nat) : Int)), (.int .i64 ((k : Nat) : Int))])] rfl (by simp [Value.cells]) rfl (cs := [(.int .i64 ((E[k].2.1 : Nat) : Int)), (.int .i64 ((k : Nat) : Int))]) rfl ⟨(hsR_2 ((hsn (b := N3) (c := (N3 + 1)) (by omega)).trans (by first|(rw [hsy]; done) | (rw [hsy]; rfl)))), ?_⟩)
      · refine wh_op U 12 (by kernel_rfl) rfl rfl rfl (op_bs U sl_89 rfl (by decide) (by decide) [(.agg #[(.int .i64 ((E[k].2.1 : Nat) : Int)), (.int .i64 ((k : Nat) : Int))])] rfl (by simp [Value.cells]) rfl (cs := [(.int .i64 ((E[k].2.1 : Nat) : Int)), (.int .i64 ((k : Nat) : Int))]) rfl ⟨(hsR_2 ((hsn (b := N3) (c := (N3 + 1)) (by omega)).trans (by first|(rw [hsy]; done) | (rw [hsy]; rfl)))), ?_⟩)
        refine wh_op U 13 (by kernel_rfl) rfl rfl rfl (op_append1 U (H0 := _) (cs := csA) (ys := [(.int .i64 ((E[k].2.1 : Nat) : Int)), (.int .i64 ((k : Nat) : Int))]) sl_89 rfl (by decide) rfl ((hF.fam.sl _ _ _ hvA hcA).at fun c hc => by have := hF.fam.gt _ _ _ hvA hc; rw [hsn (b := c) (c := N3) (by omega), hsn (b := c) (c := N3) (by omega)]) (hF.fam.low hvA (.inr (by omega))) rfl rfl rfl (by omega) (one2 rfl rfl) (by omega) (by omega) ?_)
        intro wA HA NA hNA hslA hfrA hloA
        refine ⟨(hsR_2 ((hfrA N3 (by omega) (hF.fam.low hvA (by omega))).trans ((hsn (b := N3) (c := (N3 + 1)) (by omega)).trans (by first|(rw [hsy]; done) | (rw [hsy]; rfl))))), ?_⟩
        have hbr : HA (N + 1) = some (.row 89 0 vs n) := ((hfrA (N + 1) (by omega) (hF.fam.low hvA (by omega))).trans ((hsn (b := (N + 1)) (c := (N3 + 1)) (by omega)).trans (by rw [hsn (b := (N + 1)) (c := N3) (by omega), hsn (b := (N + 1)) (c := N3) (by omega)]; exact (hF.row))))
        refine wh_rd U 14 rfl (rd_idx1 U (j := E[k].1) sl_87 rfl rfl (show E[k].1 < n by omega)) (by kernel_rfl) (by kernel_rfl) (by kernel_rfl) rfl rfl (hsR_2 ((hfrA N3 (by omega) (hF.fam.low hvA (by omega))).trans ((hsn (b := N3) (c := (N3 + 1)) (by omega)).trans (by first|(rw [hsy]; done) | (rw [hsy]; rfl))))) ?_
        have hon := oneS hslA
        refine wh_op0 U 15 (by kernel_rfl) rfl rfl (op_store1 U el_89 rfl rfl hon.1 hon.2 hbr (by omega) (by rw [hF.len]; simpa using (show E[k].1 < n by omega)) ⟨(hsR_2 ((hsn (b := N3) (c := (N + 1)) (by omega)).trans ((hfrA N3 (by omega) (hF.fam.low hvA (by omega))).trans ((hsn (b := N3) (c := (N3 + 1)) (by omega)).trans (by first|(rw [hsy]; done) | (rw [hsy]; rfl)))))), ?_⟩)
        refine wh_done U (by kernel_rfl) ?_
        rw [show 0 + (E[k].1) - 0 = (E[k].1) by omega]
        refine ⟨rfl, ⟨rfl, rfl, rfl, rfl, rfl, rfl, rfl, trivial⟩, by omega, ⟨wA, hF.step U hltR hvA (by omega) hNA (by intro c hc; rw [hsn (b := c) (c := (N3 + 1)) (by omega), hsn (b := c) (c := N3) (by omega), hsn (b := c) (c := N3) (by omega)]) hfrA hslA hloA⟩, (hF.frame hvA hfrA (by omega) (by omega)).trans ((hsn (b := N3) (c := (N3 + 1)) (by omega)).trans (by first|(rw [hsy]; done) | (rw [hsy]; rfl)))⟩
      · refine wh_op U 7 (by kernel_rfl) rfl rfl rfl (Rd.opw U (rl1 U el_89 rfl (v := vA) (rd_at U (by omega) ((hsn (b := (N + 1)) (c := (N3 + 1)) (by omega)).trans (by rw [hsn (b := (N + 1)) (c := N3) (by omega), hsn (b := (N + 1)) (c := N3) (by omega)]; exact (hF.row))) hvA)) ⟨(hsR_2 ((hsn (b := N3) (c := (N3 + 1)) (by omega)).trans (by first|(rw [hsy]; done) | (rw [hsy]; rfl)))), ?_⟩)
        refine wh_op U 13 (by kernel_rfl) rfl rfl rfl (op_append1 U (H0 := _) (cs := csA) (ys := [(.int .i64 ((E[k].2.1 : Nat) : Int)), (.int .i64 ((k : Nat) : Int))]) sl_89 rfl (by decide) rfl ((hF.fam.sl _ _ _ hvA hcA).at fun c hc => by have := hF.fam.gt _ _ _ hvA hc; rw [hsn (b := c) (c := N3) (by omega), hsn (b := c) (c := N3) (by omega)]) (hF.fam.low hvA (.inr (by omega))) rfl rfl rfl (by omega) (one2 rfl rfl) (by omega) (by omega) ?_)
        intro wA HA NA hNA hslA hfrA hloA
        refine ⟨(hsR_2 ((hfrA N3 (by omega) (hF.fam.low hvA (by omega))).trans ((hsn (b := N3) (c := (N3 + 1)) (by omega)).trans (by first|(rw [hsy]; done) | (rw [hsy]; rfl))))), ?_⟩
        have hbr : HA (N + 1) = some (.row 89 0 vs n) := ((hfrA (N + 1) (by omega) (hF.fam.low hvA (by omega))).trans ((hsn (b := (N + 1)) (c := (N3 + 1)) (by omega)).trans (by rw [hsn (b := (N + 1)) (c := N3) (by omega), hsn (b := (N + 1)) (c := N3) (by omega)]; exact (hF.row))))
        refine wh_rd U 14 rfl (rd_idx1 U (j := E[k].1) sl_87 rfl rfl (show E[k].1 < n by omega)) (by kernel_rfl) (by kernel_rfl) (by kernel_rfl) rfl rfl (hsR_2 ((hfrA N3 (by omega) (hF.fam.low hvA (by omega))).trans ((hsn (b := N3) (c := (N3 + 1)) (by omega)).trans (by first|(rw [hsy]; done) | (rw [hsy]; rfl))))) ?_
        have hon := oneS hslA
        refine wh_op0 U 15 (by kernel_rfl) rfl rfl (op_store1 U el_89 rfl rfl hon.1 hon.2 hbr (by omega) (by rw [hF.len]; simpa using (show E[k].1 < n by omega)) ⟨(hsR_2 ((hsn (b := N3) (c := (N + 1)) (by omega)).trans ((hfrA N3 (by omega) (hF.fam.low hvA (by omega))).trans ((hsn (b := N3) (c := (N3 + 1)) (by omega)).trans (by first|(rw [hsy]; done) | (rw [hsy]; rfl)))))), ?_⟩)
        refine wh_done U (by kernel_rfl) ?_
        rw [show 0 + (E[k].1) - 0 = (E[k].1) by omega]
        refine ⟨rfl, ⟨rfl, rfl, rfl, rfl, rfl, rfl, rfl, trivial⟩, by omega, ⟨wA, hF.step U hltR hvA (by omega) hNA (by intro c hc; rw [hsn (b := c) (c := (N3 + 1)) (by omega), hsn (b := c) (c := N3) (by omega), hsn (b := c) (c := N3) (by omega)]) hfrA hslA hloA⟩, (hF.frame hvA hfrA (by omega) (by omega)).trans ((hsn (b := N3) (c := (N3 + 1)) (by omega)).trans (by first|(rw [hsy]; done) | (rw [hsy]; rfl)))⟩
    rintro TA HA NA ⟨hTA, hNA, ⟨v2A, hF1⟩, huA⟩
    obtain ⟨J, rfl⟩ := hTA.ex
    rw [addN_acs hcA] at hF1
    have hX1 := addN_len (u := E[k].1) (y := (E[k].2.1, k)) hX0
    obtain ⟨vB, csB, hvB, hcB⟩ := hF1.get (show E[k].2.1 < n by omega)
    have hbB := acs_bound hX1 hcB
    repeat (first|refine nt ?_|refine nq ?_|refine wq U ?_)
    refine wc_mid U (fun T' H' N' => Has T' [(1, (.pointer (some ⟨N, 0, none⟩))), (3, (.slice (some ⟨(N + 1), 0, none⟩) n n)), (10, (.slice (some ⟨b, off, none⟩) E.length cap)), (11, (.int .i64 ((E.length : Nat) : Int))), (12, (.int .i64 ((k : Nat) : Int))), (5, (.pointer (some ⟨N3, 0, none⟩))), (4, (.int .i64 ((k : Nat) : Int)))] ∧ NA ≤ N' ∧ (∃ v2, Famo R H' (N + 1) 89 91 2 n N' ((vs.set E[k].1 v2A).set E[k].2.1 v2) (((addN (arcAcc n E k) E[k].1 (E[k].2.1, k)).map acs).set E[k].2.1 (csB ++ [(.int .i64 ((E[k].1 : Nat) : Int)), (.int .i64 ((k : Nat) : Int))]))) ∧ H' N3 = some (.row 43 0 [(.int .i64 ((E[k].1 : Nat) : Int)), (.int .i64 ((E[k].2.1 : Nat) : Int)), (.int .i64 (E[k].2.2))] 3)) ?_ ?_
    · have hblt := hF1.lt
      obtain ⟨R_3, hR_3⟩ : ∃ R, ofl [(N3, .row 43 0 [(.int .i64 ((E[k].1 : Nat) : Int)), (.int .i64 ((E[k].2.1 : Nat) : Int)), (.int .i64 (E[k].2.2))] 3)] = R := ⟨_, rfl⟩
      have hsR_3 : ∀ {X : Hp}, X N3 = some (.row 43 0 [(.int .i64 ((E[k].1 : Nat) : Int)), (.int .i64 ((E[k].2.1 : Nat) : Int)), (.int .i64 (E[k].2.2))] 3) → Sub R_3 X := fun {X} h0 => hR_3 ▸ sub_ofl (H := X) (by intro p hp; simp only [List.mem_singleton] at hp; subst hp; exact h0)
      have hxR_3 : R_3 N3 = some (.row 43 0 [(.int .i64 ((E[k].1 : Nat) : Int)), (.int .i64 ((E[k].2.1 : Nat) : Int)), (.int .i64 (E[k].2.2))] 3) := by rw [← hR_3]; exact hsy
      refine wc_draw U R_3 mixed ?_
      refine wh_rd U 0 rfl ((rm U).to (v' := (.slice (some ⟨(N + 1), 0, none⟩) n n)) rfl) (by kernel_rfl) (by kernel_rfl) (by kernel_rfl) rfl rfl (hsR_3 huA) ?_
      refine wh_rd U 1 rfl ((rfa U fb_43_1 rfl).to (v' := (.pointer (some ⟨N3, 1, none⟩))) rfl) (by kernel_rfl) (by kernel_rfl) (by kernel_rfl) rfl rfl (hsR_3 huA) ?_
      refine wh_rd U 2 rfl (rl1 U el_3 rfl (v := (.int .i64 ((E[k].2.1 : Nat) : Int))) (by rw [rrw U (by omega) hxR_3]; rfl)) (by kernel_rfl) (by kernel_rfl) (by kernel_rfl) rfl rfl (hsR_3 huA) ?_
      refine wh_rd U 3 rfl ((rm U).to (v' := (.slice (some ⟨(N + 1), 0, none⟩) n n)) rfl) (by kernel_rfl) (by kernel_rfl) (by kernel_rfl) rfl rfl (hsR_3 huA) ?_
      refine wh_rd U 4 rfl ((rfa U fb_43_1 rfl).to (v' := (.pointer (some ⟨N3, 1, none⟩))) rfl) (by kernel_rfl) (by kernel_rfl) (by kernel_rfl) rfl rfl (hsR_3 huA) ?_
      refine wh_rd U 5 rfl (rl1 U el_3 rfl (v := (.int .i64 ((E[k].2.1 : Nat) : Int))) (by rw [rrw U (by omega) hxR_3]; rfl)) (by kernel_rfl) (by kernel_rfl) (by kernel_rfl) rfl rfl (hsR_3 huA) ?_
      refine wh_rd U 6 rfl (rd_idx1 U (j := E[k].2.1) sl_87 rfl rfl (by omega)) (by kernel_rfl) (by kernel_rfl) (by kernel_rfl) rfl rfl (hsR_3 huA) ?_
      refine wh_rd U 8 rfl ((rfa U fb_43_0 rfl).to (v' := (.pointer (some ⟨N3, 0, none⟩))) rfl) (by kernel_rfl) (by kernel_rfl) (by kernel_rfl) rfl rfl (hsR_3 huA) ?_
      refine wh_rd U 9 rfl (rl1 U el_3 rfl (v := (.int .i64 ((E[k].1 : Nat) : Int))) (by rw [rrw U (by omega) hxR_3]; rfl)) (by kernel_rfl) (by kernel_rfl) (by kernel_rfl) rfl rfl (hsR_3 huA) ?_
      refine wh_rd U 10 rfl ((rm U).to (v' := (.int .i64 ((k : Nat) : Int))) rfl) (by kernel_rfl) (by kernel_rfl) (by kernel_rfl) rfl rfl (hsR_3 huA) ?_
      refine wh_rd U 11 rfl (rd_build U (cells := #[(.int .i64 ((E[k].1 : Nat) : Int)), (.int .i64 ((k : Nat) : Int))]) (by unfold P; kernel_rfl)) (by kernel_rfl) (by kernel_rfl) (by kernel_rfl) rfl rfl (hsR_3 huA) ?_
      refine wh_two U 7 12 (by kernel_rfl) rfl rfl rfl rfl rfl rfl (Rd.opw U (rl1 U el_89 rfl (v := vB) (rd_at U (by omega) (hF1.row) hvB)) ⟨(hsR_3 huA), ?_⟩) (op_bs U sl_89 rfl (by decide) (by decide) [(.agg #[(.int .i64 ((E[k].1 : Nat) : Int)), (.int .i64 ((k : Nat) : Int))])] rfl (by simp [Value.cells]) rfl (cs := [(.int .i64 ((E[k].1 : Nat) : Int)), (.int .i64 ((k : Nat) : Int))]) rfl ⟨(hsR_3 ((hsn (b := N3) (c := NA) (by omega)).trans huA)), ?_⟩)
      · refine wh_op U 12 (by kernel_rfl) rfl rfl rfl (op_bs U sl_89 rfl (by decide) (by decide) [(.agg #[(.int .i64 ((E[k].1 : Nat) : Int)), (.int .i64 ((k : Nat) : Int))])] rfl (by simp [Value.cells]) rfl (cs := [(.int .i64 ((E[k].1 : Nat) : Int)), (.int .i64 ((k : Nat) : Int))]) rfl ⟨(hsR_3 ((hsn (b := N3) (c := NA) (by omega)).trans huA)), ?_⟩)
        refine wh_op U 13 (by kernel_rfl) rfl rfl rfl (op_append1 U (H0 := _) (cs := csB) (ys := [(.int .i64 ((E[k].1 : Nat) : Int)), (.int .i64 ((k : Nat) : Int))]) sl_89 rfl (by decide) rfl (hF1.fam.sl _ _ _ hvB hcB) (hF1.fam.low hvB (.inr (by omega))) rfl rfl rfl (by omega) (one2 rfl rfl) (by omega) (by omega) ?_)
        intro wB HB NB hNB hslB hfrB hloB
        refine ⟨(hsR_3 ((hfrB N3 (by omega) (hF1.fam.not hvB huA (by decide))).trans ((hsn (b := N3) (c := NA) (by omega)).trans huA))), ?_⟩
        have hbr : HB (N + 1) = some (.row 89 0 (vs.set E[k].1 v2A) n) := ((hfrB (N + 1) (by omega) (hF1.fam.low hvB (by omega))).trans ((hsn (b := (N + 1)) (c := NA) (by omega)).trans (hF1.row)))
        refine wh_rd U 14 rfl (rd_idx1 U (j := E[k].2.1) sl_87 rfl rfl (show E[k].2.1 < n by omega)) (by kernel_rfl) (by kernel_rfl) (by kernel_rfl) rfl rfl (hsR_3 ((hfrB N3 (by omega) (hF1.fam.not hvB huA (by decide))).trans ((hsn (b := N3) (c := NA) (by omega)).trans huA))) ?_
        have hon := oneS hslB
        refine wh_op0 U 15 (by kernel_rfl) rfl rfl (op_store1 U el_89 rfl rfl hon.1 hon.2 hbr (by omega) (by rw [hF1.len]; simpa using (show E[k].2.1 < n by omega)) ⟨(hsR_3 ((hsn (b := N3) (c := (N + 1)) (by omega)).trans ((hfrB N3 (by omega) (hF1.fam.not hvB huA (by decide))).trans ((hsn (b := N3) (c := NA) (by omega)).trans huA)))), ?_⟩)
        refine wh_done U (by kernel_rfl) ?_
        rw [show 0 + (E[k].2.1) - 0 = (E[k].2.1) by omega]
        refine ⟨rfl, ⟨rfl, rfl, rfl, rfl, rfl, rfl, rfl, trivial⟩, by omega, ⟨wB, hF1.step U hltR hvB (by omega) hNB (by intro c hc; rw [hsn (b := c) (c := NA) (by omega)]) hfrB hslB hloB⟩, (hF1.frame2 hvB hfrB (by omega) (hF1.fam.not hvB huA (by decide)) (by omega)).trans ((hsn (b := N3) (c := NA) (by omega)).trans huA)⟩
      · refine wh_op U 7 (by kernel_rfl) rfl rfl rfl (Rd.opw U (rl1 U el_89 rfl (v := vB) (rd_at U (by omega) ((hsn (b := (N + 1)) (c := NA) (by omega)).trans (hF1.row)) hvB)) ⟨(hsR_3 ((hsn (b := N3) (c := NA) (by omega)).trans huA)), ?_⟩)
        refine wh_op U 13 (by kernel_rfl) rfl rfl rfl (op_append1 U (H0 := _) (cs := csB) (ys := [(.int .i64 ((E[k].1 : Nat) : Int)), (.int .i64 ((k : Nat) : Int))]) sl_89 rfl (by decide) rfl (hF1.fam.sl _ _ _ hvB hcB) (hF1.fam.low hvB (.inr (by omega))) rfl rfl rfl (by omega) (one2 rfl rfl) (by omega) (by omega) ?_)
        intro wB HB NB hNB hslB hfrB hloB
        refine ⟨(hsR_3 ((hfrB N3 (by omega) (hF1.fam.not hvB huA (by decide))).trans ((hsn (b := N3) (c := NA) (by omega)).trans huA))), ?_⟩
        have hbr : HB (N + 1) = some (.row 89 0 (vs.set E[k].1 v2A) n) := ((hfrB (N + 1) (by omega) (hF1.fam.low hvB (by omega))).trans ((hsn (b := (N + 1)) (c := NA) (by omega)).trans (hF1.row)))
        refine wh_rd U 14 rfl (rd_idx1 U (j := E[k].2.1) sl_87 rfl rfl (show E[k].2.1 < n by omega)) (by kernel_rfl) (by kernel_rfl) (by kernel_rfl) rfl rfl (hsR_3 ((hfrB N3 (by omega) (hF1.fam.not hvB huA (by decide))).trans ((hsn (b := N3) (c := NA) (by omega)).trans huA))) ?_
        have hon := oneS hslB
        refine wh_op0 U 15 (by kernel_rfl) rfl rfl (op_store1 U el_89 rfl rfl hon.1 hon.2 hbr (by omega) (by rw [hF1.len]; simpa using (show E[k].2.1 < n by omega)) ⟨(hsR_3 ((hsn (b := N3) (c := (N + 1)) (by omega)).trans ((hfrB N3 (by omega) (hF1.fam.not hvB huA (by decide))).trans ((hsn (b := N3) (c := NA) (by omega)).trans huA)))), ?_⟩)
        refine wh_done U (by kernel_rfl) ?_
        rw [show 0 + (E[k].2.1) - 0 = (E[k].2.1) by omega]
        refine ⟨rfl, ⟨rfl, rfl, rfl, rfl, rfl, rfl, rfl, trivial⟩, by omega, ⟨wB, hF1.step U hltR hvB (by omega) hNB (by intro c hc; rw [hsn (b := c) (c := NA) (by omega)]) hfrB hslB hloB⟩, (hF1.frame2 hvB hfrB (by omega) (hF1.fam.not hvB huA (by decide)) (by omega)).trans ((hsn (b := N3) (c := NA) (by omega)).trans huA)⟩
    rintro TB HB NB ⟨hTB, hNB, ⟨v2B, hF2⟩, huB⟩
    obtain ⟨J, rfl⟩ := hTB.ex
    rw [addN_acs hcB, ← arcAcc_succ n E hk1] at hF2
    repeat (first|refine nt ?_|refine nq ?_)
    repeat (first|refine nt ?_|refine nq ?_|refine wq U ?_)
    refine wg U ?_
    refine wr U (rd_add U rfl rfl (by omega) (by omega)) rfl rfl ?_
    refine wr U ((rm U).to (v' := (.int .i64 (((k : Nat) : Int) + 1))) rfl) rfl rfl ?_
    refine wz U ?_
    repeat (first|refine nt ?_|refine nq ?_)
    exact ⟨E.length - (k + 1), by omega, k + 1, _, by omega, rfl, ⟨rfl, rfl, rfl, rfl, rfl, trivial⟩, hF2⟩
  · replace hc := of_decide_eq_false hc
    refine wc_exit U ?_
    repeat (first|refine xt ?_|refine xps (by decide) ?_)
    refine xbl ?_
    repeat (first|refine nt ?_|refine nq ?_)
    have hkE : k = E.length := by omega
    rw [hkE] at hF
    repeat (first|refine nt ?_|refine nq ?_|refine wq U ?_)
    refine wg U ?_
    refine wr U ((rm U).to (v' := (.slice (some ⟨(N + 1), 0, none⟩) n n)) rfl) rfl rfl ?_
    refine wr U ((ra U).to (v' := (.slice (some ⟨(N + 1), 0, none⟩) n n)) rfl) rfl rfl ?_
    refine wz U ?_
    refine wc_own U fun hBN4 hlt4b => ?_
    refine wc_ret U ?_
    repeat (first|refine ret1 ?_|refine ret2 ?_)
    exact end1 U (.inl rfl) rfl (v := (.slice (some ⟨(N + 1), 0, none⟩) n n)) rfl ⟨hF.fam.rdA U (fun b o e => (hlt4b b o e).1) hF.row hF.len, hsR.trans hF.sub, by omega⟩
end Go.Proofs.YtdmodppoellbkaaGreat
namespace Go.Proofs.YtdmodppoellbkaaGreat
/-- Two vertices are next to one another. -/
def adj (E : List NE) (u v : Nat) : Prop := ∃ e ∈ E, (e.1 = u ∧ e.2.1 = v) ∨ (e.1 = v ∧ e.2.1 = u)
theorem adj.symm {E : List NE} {u v : Nat} (h : adj E u v) : adj E v u := by
  obtain ⟨e, he, h⟩ := h; exact ⟨e, he, h.symm⟩
/-- Two vertices hang together. -/
inductive Conn (E : List NE) (u : Nat) : Nat → Prop
  | refl : Conn E u u
  | step {v w : Nat} : Conn E u v → adj E v w → Conn E u w
theorem Conn.trans {E : List NE} {u v w : Nat} (h : Conn E u v) (k : Conn E v w) : Conn E u w := by
  induction k with
  | refl => exact h
  | step _ ha ih => exact ih.step ha
theorem Conn.one {E : List NE} {u v : Nat} (h : adj E u v) : Conn E u v := Conn.refl.step h
theorem Conn.symm {E : List NE} {u v : Nat} (h : Conn E u v) : Conn E v u := by
  induction h with
  | refl => exact .refl
  | step _ ha ih => exact (Conn.one ha.symm).trans ih
theorem GOk.adj_lt {n : Nat} {E : List NE} (h : GOk n E) {u v : Nat} (ha : adj E u v) : u < n ∧ v < n ∧ u ≠ v := by
  obtain ⟨e, he, h'⟩ := ha; have := h.he e he; omega
theorem GOk.conn_lt {n : Nat} {E : List NE} (h : GOk n E) {u v : Nat} (hc : Conn E u v) (hu : u < n) : v < n := by
  induction hc with
  | refl => exact hu
  | step _ ha _ => exact (h.adj_lt ha).2.1
/-- A list of what hangs together. -/
def IsComp (E : List NE) (c : List Nat) : Prop := c.Pairwise (· < ·) ∧ ∃ r ∈ c, ∀ x, x ∈ c ↔ Conn E r x
theorem IsComp.mem {E : List NE} {c : List Nat} (h : IsComp E c) {x y : Nat} (hx : x ∈ c) : y ∈ c ↔ Conn E x y := by
  obtain ⟨_, r, hr, hc⟩ := h
  have := (hc x).1 hx
  rw [hc y]
  exact ⟨fun h => this.symm.trans h, fun h => this.trans h⟩
theorem sorted_ext {c d : List Nat} (hc : c.Pairwise (· < ·)) (hd : d.Pairwise (· < ·)) (h : ∀ x, x ∈ c ↔ x ∈ d) : c = d := by
  induction c generalizing d with
  | nil => cases d with
    | nil => rfl
    | cons y d => have := (h y).2 (by simp); simp at this
  | cons x c ih =>
    cases d with
    | nil => have := (h x).1 (by simp); simp at this
    | cons y d =>
      rw [List.pairwise_cons] at hc hd
      have hxy : x = y := by
        have h1 := (h x).1 (by simp)
        have h2 := (h y).2 (by simp)
        simp only [List.mem_cons] at h1 h2
        rcases h1 with h1 | h1
        · exact h1
        · rcases h2 with h2 | h2
          · exact h2.symm
          · have := hc.1 y h2; have := hd.1 x h1; omega
      subst hxy
      congr 1
      refine ih hc.2 hd.2 fun z => ?_
      have := h z
      simp only [List.mem_cons] at this
      constructor
      · intro hz
        rcases this.1 (.inr hz) with h1 | h1
        · subst h1; exact absurd (hc.1 z hz) (by omega)
        · exact h1
      · intro hz
        rcases this.2 (.inr hz) with h1 | h1
        · subst h1; exact absurd (hd.1 z hz) (by omega)
        · exact h1
theorem nodup_len : ∀ (n : Nat) (l : List Nat), l.Nodup → (∀ x ∈ l, x < n) → l.length ≤ n := by
  intro n
  induction n with
  | zero =>
    intro l _ h
    cases l with
    | nil => simp
    | cons x l => have := h x (by simp); omega
  | succ n ih =>
    intro l hd h
    by_cases hn : n ∈ l
    · have := ih (l.erase n) (hd.erase n) (fun x hx => by
        have h1 := (hd.mem_erase_iff).1 hx
        have := h x h1.2; have := h1.1; omega)
      rw [List.length_erase_of_mem hn] at this; omega
    · have := ih l hd (fun x hx => by
        have := h x hx
        have : x ≠ n := by rintro rfl; exact hn hx
        omega)
      omega
theorem sortN_strict {l : List Nat} (h : l.Nodup) : (sortN l).Pairwise (· < ·) := by
  have h1 := sortN_sorted l
  have h2 : (sortN l).Nodup := (sortN_perm l).nodup_iff.2 h
  exact (h1.and h2).imp fun ⟨a, b⟩ => Nat.lt_of_le_of_ne a b
theorem mem_sortN {l : List Nat} {x : Nat} : x ∈ sortN l ↔ x ∈ l := (sortN_perm l).mem_iff
/-! ### The lists of arcs and of neighbours -/
theorem mem_addN {α : Type} {X : List (List α)} {u : Nat} {y : α} (hu : u < X.length) (v : Nat) (z : α) : z ∈ (addN X u y).getD v [] ↔ z ∈ X.getD v [] ∨ (v = u ∧ z = y) := by
  simp only [addN, List.getD_eq_getElem?_getD, List.getElem?_set]
  by_cases h : u = v
  · subst h; rw [if_pos rfl, if_pos hu]; simp
  · rw [if_neg h]; simp; intro h'; exact absurd h'.symm h
theorem arcAcc_mem {n : Nat} {E : List NE} (hg : GOk n E) {k : Nat} (hk : k ≤ E.length) (v y i : Nat) : (y, i) ∈ (arcAcc n E k).getD v [] ↔ ∃ h : i < E.length, i < k ∧ ((E[i].1 = v ∧ E[i].2.1 = y) ∨ (E[i].2.1 = v ∧ E[i].1 = y)) := by
  induction k with
  | zero =>
    simp only [arcAcc, List.range_zero, List.foldl_nil, List.getD_eq_getElem?_getD, List.getElem?_replicate]
    constructor
    · intro h; split at h <;> simp at h
    · rintro ⟨_, h, _⟩; omega
  | succ k ih =>
    have hk' : k < E.length := by omega
    have he := hg.at hk'
    rw [arcAcc_succ n E hk', mem_addN (by rw [addN_length, arcAcc_length]; omega), mem_addN (by rw [arcAcc_length]; omega), ih (by omega)]
    constructor
    · rintro ((⟨h, h1, h2⟩ | ⟨rfl, h2⟩) | ⟨rfl, h2⟩)
      · exact ⟨h, by omega, h2⟩
      · cases h2; exact ⟨hk', by omega, .inl ⟨rfl, rfl⟩⟩
      · cases h2; exact ⟨hk', by omega, .inr ⟨rfl, rfl⟩⟩
    · rintro ⟨h, h1, h2⟩
      by_cases hik : i = k
      · subst hik
        rcases h2 with ⟨rfl, rfl⟩ | ⟨rfl, rfl⟩
        · exact .inl (.inr ⟨rfl, rfl⟩)
        · exact .inr ⟨rfl, rfl⟩
      · exact .inl (.inl ⟨h, by omega, h2⟩)
theorem arcsL_adj {n : Nat} {E : List NE} (hg : GOk n E) (u y : Nat) : (∃ i, (y, i) ∈ (arcsL n E).getD u []) ↔ adj E u y := by
  constructor
  · rintro ⟨i, hi⟩
    obtain ⟨h, _, h2⟩ := (arcAcc_mem hg (Nat.le_refl _) u y i).1 hi
    exact ⟨E[i], List.getElem_mem h, h2.imp id fun ⟨a, b⟩ => ⟨b, a⟩⟩
  · rintro ⟨e, he, h2⟩
    obtain ⟨i, hi, rfl⟩ := List.getElem_of_mem he
    exact ⟨i, (arcAcc_mem hg (Nat.le_refl _) u y i).2 ⟨hi, hi, h2.imp id fun ⟨a, b⟩ => ⟨b, a⟩⟩⟩
theorem nearAcc_mem {n : Nat} {E : List NE} (hg : GOk n E) {k : Nat} (hk : k ≤ E.length) (v y : Nat) : y ∈ (nearAcc n (E.take k)).getD v [] ↔ ∃ i, ∃ h : i < E.length, i < k ∧ ((E[i].1 = v ∧ E[i].2.1 = y) ∨ (E[i].2.1 = v ∧ E[i].1 = y)) := by
  induction k with
  | zero =>
    simp only [nearAcc, List.take_zero, List.foldl_nil, List.getD_eq_getElem?_getD, List.getElem?_replicate]
    constructor
    · intro h; split at h <;> simp at h
    · rintro ⟨_, _, h, _⟩; omega
  | succ k ih =>
    have hk' : k < E.length := by omega
    have he := hg.at hk'
    rw [nearAcc_succ n E hk', mem_addN (by rw [addN_length, nearAcc_length]; omega), mem_addN (by rw [nearAcc_length]; omega), ih (by omega)]
    constructor
    · rintro ((⟨i, h, h1, h2⟩ | ⟨rfl, rfl⟩) | ⟨rfl, rfl⟩)
      · exact ⟨i, h, by omega, h2⟩
      · exact ⟨k, hk', by omega, .inl ⟨rfl, rfl⟩⟩
      · exact ⟨k, hk', by omega, .inr ⟨rfl, rfl⟩⟩
    · rintro ⟨i, h, h1, h2⟩
      by_cases hik : i = k
      · subst hik
        rcases h2 with ⟨rfl, rfl⟩ | ⟨rfl, rfl⟩
        · exact .inl (.inr ⟨rfl, rfl⟩)
        · exact .inr ⟨rfl, rfl⟩
      · exact .inl (.inl ⟨i, h, by omega, h2⟩)
theorem nearL_length (n : Nat) (E : List NE) : (nearL n E).length = n := by simp [nearL, nearAcc_length]
theorem nearL_mem {n : Nat} {E : List NE} (hg : GOk n E) (u y : Nat) : y ∈ (nearL n E).getD u [] ↔ adj E u y := by
  have h1 : y ∈ (nearL n E).getD u [] ↔ y ∈ (nearAcc n E).getD u [] := by
    simp only [nearL, List.getD_eq_getElem?_getD, List.getElem?_map]
    cases (nearAcc n E)[u]? with
    | none => rfl
    | some xs => exact mem_sortN
  have h2 := nearAcc_mem hg (Nat.le_refl E.length) u y
  rw [List.take_length] at h2
  rw [h1, h2]
  constructor
  · rintro ⟨i, h, _, h2⟩
    exact ⟨E[i], List.getElem_mem h, h2.imp id fun ⟨a, b⟩ => ⟨b, a⟩⟩
  · rintro ⟨e, he, h2⟩
    obtain ⟨i, hi, rfl⟩ := List.getElem_of_mem he
    exact ⟨i, hi, hi, h2.imp id fun ⟨a, b⟩ => ⟨b, a⟩⟩
/-! ### The search -/
/-- The vertices that are met, and the components so far, before vertex 'v'. -/
structure Outer (n : Nat) (E : List NE) (met : List Bool) (parts : List (List Nat)) (v : Nat) : Prop where
  len : met.length = n
  m : ∀ x, met[x]? = some true ↔ ∃ c ∈ parts, x ∈ c
  c : ∀ c ∈ parts, IsComp E c
  d : parts.Pairwise (fun c d => ∀ x ∈ c, x ∉ d)
  lt : ∀ x, x < v → x < n → met[x]? = some true
  pl : parts.length ≤ v
structure Mid (n : Nat) (E : List NE) (met0 met : List Bool) (part : List Nat) (v k : Nat) : Prop where
  len : met.length = n
  hd : v ∈ part
  con : ∀ x ∈ part, Conn E v x
  nd : part.Nodup
  ltn : ∀ x ∈ part, x < n
  m : ∀ x : Nat, met[x]? = some true ↔ met0[x]? = some true ∨ x ∈ part
  new : ∀ x ∈ part, met0[x]? ≠ some true
  done : ∀ (i : Nat) (h : i < part.length), i < k → ∀ y : Nat, adj E part[i] y → met[y]? = some true
  le : k ≤ part.length
theorem Outer.start (n : Nat) (E : List NE) : Outer n E (List.replicate n false) [] 0 :=
  ⟨by simp, fun x => by
    constructor
    · intro h; rw [List.getElem?_replicate] at h; split at h <;> simp at h
    · rintro ⟨c, hc, _⟩; simp at hc, fun c hc => by simp at hc, List.Pairwise.nil, fun x h => by omega, by simp⟩
theorem Outer.skip {n : Nat} {E : List NE} {met : List Bool} {parts : List (List Nat)} {v : Nat} (h : Outer n E met parts v) (hv : met[v]? = some true) : Outer n E met parts (v + 1) :=
  ⟨h.len, h.m, h.c, h.d, fun x h1 h2 => by
    by_cases hx : x = v
    · subst hx; exact hv
    · exact h.lt x (by omega) h2, by have := h.pl; omega⟩
theorem Outer.mid {n : Nat} {E : List NE} {met : List Bool} {parts : List (List Nat)} {v : Nat} (h : Outer n E met parts v) (hv : v < n) (hf : met[v]? = some false) : Mid n E met (met.set v true) [v] v 0 := by
  refine ⟨by simp [h.len], by simp, ?_, by simp, ?_, ?_, ?_, ?_, by simp⟩
  · intro x hx; simp at hx; subst hx; exact .refl
  · intro x hx; simp at hx; omega
  · intro x
    rw [List.getElem?_set]
    by_cases hx : v = x
    · subst hx; simp [h.len, hv]
    · rw [if_neg hx]; simp; intro h'; exact absurd h'.symm hx
  · intro x hx; simp at hx; subst hx; rw [hf]; simp
  · intro i hi h0; omega
theorem Mid.push {n : Nat} {E : List NE} {met0 met : List Bool} {part : List Nat} {v k x : Nat} (h : Mid n E met0 met part v k) (hk : k < part.length) (ha : adj E part[k] x) (hx : x < n) (hf : met[x]? = some false) : Mid n E met0 (met.set x true) (part ++ [x]) v k := by
  have hnm : ¬ (met0[x]? = some true ∨ x ∈ part) := by rw [← h.m x, hf]; simp
  have hset : ∀ y : Nat, (met.set x true)[y]? = some true ↔ met[y]? = some true ∨ y = x := by
    intro y
    rw [List.getElem?_set]
    by_cases hy : x = y
    · subst hy; simp [h.len, hx]
    · rw [if_neg hy]; simp; intro h'; exact absurd h'.symm hy
  refine ⟨by simp [h.len], by simp [h.hd], ?_, ?_, ?_, ?_, ?_, ?_, by have := h.le; simp; omega⟩
  · intro y hy
    rcases List.mem_append.1 hy with h1 | h1
    · exact h.con y h1
    · simp at h1; subst h1; exact (h.con _ (List.getElem_mem hk)).step ha
  · rw [List.nodup_append]
    refine ⟨h.nd, by simp, ?_⟩
    intro a ha' b hb
    simp at hb; subst hb; rintro rfl; exact hnm (.inr ha')
  · intro y hy
    rcases List.mem_append.1 hy with h1 | h1
    · exact h.ltn y h1
    · simp at h1; omega
  · intro y
    rw [hset y, h.m y]; simp only [List.mem_append, List.mem_singleton, or_assoc]
  · intro y hy
    rcases List.mem_append.1 hy with h1 | h1
    · exact h.new y h1
    · simp at h1; subst h1; exact fun h2 => hnm (.inl h2)
  · intro i hi hik y hay
    have hi' : i < part.length := by have := h.le; omega
    rw [List.getElem_append_left hi'] at hay
    exact (hset y).2 (.inl (h.done i hi' hik y hay))
theorem Mid.next {n : Nat} {E : List NE} {met0 met : List Bool} {part : List Nat} {v k : Nat} (h : Mid n E met0 met part v k) (hk : k < part.length) (hd : ∀ y : Nat, adj E part[k] y → met[y]? = some true) : Mid n E met0 met part v (k + 1) :=
  ⟨h.len, h.hd, h.con, h.nd, h.ltn, h.m, h.new, fun i hi hik y hay => by
    by_cases hik' : i = k
    · subst hik'; exact hd y hay
    · exact h.done i hi (by omega) y hay, hk⟩
theorem Mid.plen {n : Nat} {E : List NE} {met0 met : List Bool} {part : List Nat} {v k : Nat} (h : Mid n E met0 met part v k) : part.length ≤ n := nodup_len n part h.nd h.ltn
theorem Outer.push {n : Nat} {E : List NE} {met met' : List Bool} {parts : List (List Nat)} {part : List Nat} {v : Nat} (h : Outer n E met parts v) (hm : Mid n E met met' part v part.length) : Outer n E met' (parts ++ [sortN part]) (v + 1) := by
  have hclosed : ∀ x ∈ part, ∀ y, adj E x y → y ∈ part := by
    intro x hx y ha
    obtain ⟨i, hi, rfl⟩ := List.getElem_of_mem hx
    have h1 := hm.done i hi hi y ha
    rcases (hm.m y).1 h1 with h2 | h2
    · exfalso
      obtain ⟨c, hc, hyc⟩ := (h.m y).1 h2
      have h3 : part[i] ∈ c := ((h.c c hc).mem hyc).2 (Conn.one ha.symm)
      exact hm.new _ hx ((h.m _).2 ⟨c, hc, h3⟩)
    · exact h2
  have hcomp : ∀ x, x ∈ part ↔ Conn E v x := by
    intro x
    refine ⟨hm.con x, fun hc => ?_⟩
    induction hc with
    | refl => exact hm.hd
    | step _ ha ih => exact hclosed _ ih _ ha
  refine ⟨hm.len, ?_, ?_, ?_, ?_, by have := h.pl; simp; omega⟩
  · intro x
    rw [hm.m x, h.m x]
    constructor
    · rintro (⟨c, hc, hx⟩ | hx)
      · exact ⟨c, by simp [hc], hx⟩
      · exact ⟨sortN part, by simp, mem_sortN.2 hx⟩
    · rintro ⟨c, hc, hx⟩
      rcases List.mem_append.1 hc with h1 | h1
      · exact .inl ⟨c, h1, hx⟩
      · simp at h1; subst h1; exact .inr (mem_sortN.1 hx)
  · intro c hc
    rcases List.mem_append.1 hc with h1 | h1
    · exact h.c c h1
    · simp at h1; subst h1
      exact ⟨sortN_strict hm.nd, v, mem_sortN.2 hm.hd, fun x => mem_sortN.trans (hcomp x)⟩
  · rw [List.pairwise_append]
    refine ⟨h.d, by simp, ?_⟩
    intro c hc d hd x hx hxd
    simp at hd; subst hd
    exact hm.new x (mem_sortN.1 hxd) ((h.m x).2 ⟨c, hc, hx⟩)
  · intro x h1 h2
    by_cases hx : x = v
    · subst hx; exact (hm.m x).2 (.inr hm.hd)
    · exact (hm.m x).2 (.inl (h.lt x (by omega) h2))
/-- All components of a graph. -/
structure Comps (n : Nat) (E : List NE) (cs : List (List Nat)) : Prop where
  c : ∀ c ∈ cs, IsComp E c
  d : cs.Pairwise (fun c d => ∀ x ∈ c, x ∉ d)
  all : ∀ x, x < n → ∃ c ∈ cs, x ∈ c
  lt : ∀ c ∈ cs, ∀ x ∈ c, x < n
theorem Outer.comps {n : Nat} {E : List NE} {met : List Bool} {parts : List (List Nat)} (h : Outer n E met parts n) : Comps n E parts :=
  ⟨h.c, h.d, fun x hx => (h.m x).1 (h.lt x hx hx), fun c hc x hx => by
    have h1 := (h.m x).2 ⟨c, hc, hx⟩
    rw [← h.len]
    rcases Nat.lt_or_ge x met.length with h' | h'
    · exact h'
    · rw [List.getElem?_eq_none h'] at h1; cases h1⟩
end Go.Proofs.YtdmodppoellbkaaGreat
namespace Go.Proofs.YtdmodppoellbkaaGreat
open Go Go.RowKit
variable (U : Cx)
/-- What is known of blocks from 'N' on. -/
def hiH (N : Nat) (H : Hp) : Hp := fun c => if c < N then none else H c
theorem hiH_sub (N : Nat) (H : Hp) : Sub (hiH N H) H := fun c o hc => by unfold hiH at hc; split at hc; cases hc; exact hc
theorem hiH_ge {N : Nat} {H : Hp} {c : Nat} (h : N ≤ c) : hiH N H c = H c := if_neg (by omega)
theorem hiH_mono {N M : Nat} {H H' : Hp} (h : Sub H H') (hN : M ≤ N) : Sub (hiH N H) (hiH M H') := fun c o hc => by
  unfold hiH at hc ⊢
  split at hc
  · cases hc
  · rw [if_neg (by omega)]; exact h c o hc
theorem s36h (n : Nat) (E : List NE) (sv : Value) (hg : GOk n E) (H : Hp) (N : Nat) (hv : RdS U H sv 3 (necs E)) : Spec U 36 #[(.agg #[(.int .i64 ((n : Nat) : Int)), sv])] H N (fun v H' N' => ∃ cs, Comps n E cs ∧ Rd2 U (hiH N H') v cs ∧ Sub H H' ∧ N ≤ N') := by
  have hv0 := hv
  obtain ⟨p, cap, rfl, hc, hp⟩ := hv.edges U
  refine spa U pf_36 (m := 74) rfl rfl (by simp) fun hBN hlt => ?_
  obtain ⟨J, hJ⟩ := Has.ex (T := argsT #[(.agg #[(.int .i64 ((n : Nat) : Int)), (.slice p E.length cap)])]) (l := [(0, (.agg #[(.int .i64 ((n : Nat) : Int)), (.slice p E.length cap)]))]) ⟨rfl, trivial⟩
  rw [hJ]; clear hJ
  have hn64 := hg.hn; have hm := hg.hm
  repeat (first|refine nt ?_|refine nq ?_|refine wq U ?_)
  refine wg U ?_
  refine wl_op U rfl rfl (op_box U rfl rfl ?_)
  refine wr U ((ra U).to (v' := (.slice none 0 0)) rfl) rfl rfl ?_
  refine wz U ?_
  repeat (first|refine nt ?_|refine nq ?_|refine wq U ?_)
  refine wg U ?_
  refine wr U (rd_load2 U el_24 rfl (v0 := (.int .i64 ((n : Nat) : Int))) (v1 := (.slice p E.length cap))  (by rw [rhq U (by omega)]; rfl) (by rw [rhq U (by omega)]; rfl)) rfl rfl ?_
  refine wl_op U rfl rfl (op_call U Tryz.f32 rfl rfl pf_32 (by kernel_rfl) (by kernel_rfl) ((s32 U n E _ hg _ _ (hv.sub U ((Sub.refl _).hset (fresh hlt (by omega))))).mono U ?_))
  rintro _ R0 N0 ⟨rfl, hs1, hN0⟩
  have hx_1 := hs1 N _ (by first|(rw [hsy]; done) | (rw [hsy]; rfl))
  have hs_2 := ((Sub.refl _).hset (fresh hlt (by omega))).trans hs1
  refine wl_own U fun hBN0 hltR0 => ?_
  refine wr U (rd_neq U rfl rfl) rfl rfl ?_
  refine wz U ?_
  repeat (first|refine nt ?_|refine nq ?_|refine wq U ?_)
  refine wcd U (t := false) rfl (fun h => nomatch h) fun _ => ?_
  refine wsk U ?_
  repeat (first|refine nt ?_|refine nq ?_|refine wq U ?_)
  refine wg U ?_
  refine wr U (rd_load2 U el_24 rfl (v0 := (.int .i64 ((n : Nat) : Int))) (v1 := (.slice p E.length cap))  (by rw [rrw U (by omega) hx_1]; rfl) (by rw [rrw U (by omega) hx_1]; rfl)) rfl rfl ?_
  refine wl_op U rfl rfl (op_call U Tryz.f54 rfl rfl pf_54 (by kernel_rfl) (by kernel_rfl) ((s54 U n E _ hg _ _ (hv.sub U hs_2)).mono U ?_))
  rintro av R N1 ⟨hA, hs2, hN1⟩
  have hx_3 := hs2 N _ hx_1
  have hs_4 := hs_2.trans hs2
  refine wl_own U fun hBN1 hltR => ?_
  obtain ⟨vsA, hAr, hAl, hAe⟩ := hA
  obtain ⟨pA, capA, rfl, hcA, hpA⟩ := hAr.cells1 U
  have hAn : vsA.length = n := by rw [hAl]; exact arcAcc_length n E _
  refine wr U ((ra U).to (v' := (.slice pA vsA.length capA)) rfl) rfl rfl ?_
  refine wz U ?_
  have hsR := hs_4
  repeat (first|refine nt ?_|refine nq ?_|refine wq U ?_)
  refine wg U ?_
  refine wr U ((rfa U fb_24_0 rfl).to (v' := (.pointer (some ⟨N, 0, none⟩))) rfl) rfl rfl ?_
  refine wr U (rl1 U el_3 rfl (v := (.int .i64 ((n : Nat) : Int))) (by rw [rrw U (by omega) hx_3]; rfl)) rfl rfl ?_
  refine wl_op U rfl rfl (op_makeSlice U (m := n) (v := .bool false) sl_67 rfl rfl rfl (by omega) (by omega) ?_)
  refine wr U ((ra U).to (v' := (.slice (some ⟨N1, 0, none⟩) n n)) rfl) rfl rfl ?_
  refine wz U ?_
  refine wc_gen U (fun H2 => H2 N1 = some (.row 4 0 (bools (List.replicate n false)) n) ∧ Sub R H2) ⟨by rw [← bools_rep]; exact hsy, (Sub.refl R).hset (fresh hltR (by omega))⟩ ?_
  rintro H2 ⟨hm2, hs2R⟩ hBN2 hlt2
  repeat (first|refine nt ?_|refine nq ?_|refine wq U ?_)
  refine wg U ?_
  refine wr U ((rfa U fb_24_0 rfl).to (v' := (.pointer (some ⟨N, 0, none⟩))) rfl) rfl rfl ?_
  refine wr U (rl1 U el_3 rfl (v := (.int .i64 ((n : Nat) : Int))) (by rw [rrw U (by omega) (hs2R _ _ hx_3)]; rfl)) rfl rfl ?_
  refine wr U ((rm U).to (v' := (.int .i64 0)) rfl) rfl rfl ?_
  refine wz U ?_
  repeat (first|refine nt ?_|refine nq ?_|refine wq U ?_)
  refine wc_block U ?_
  refine wc_loop U (fun m T H' N' => ∃ (k : Nat) (met : List Bool) (parts : List (List Nat)) (vs : List Value) (ov : Value), k ≤ n ∧ m = n - k ∧ Has T [(2, ov), (3, (.slice pA vsA.length capA)), (4, (.slice (some ⟨N1, 0, none⟩) n n)), (19, (.int .i64 ((n : Nat) : Int))), (20, (.int .i64 ((k : Nat) : Int)))] ∧ Sub R H' ∧ H' N1 = some (.row 4 0 (bools met) n) ∧ Fam H' N1 3 1 N' vs (parts.map nats) ∧ IsSl H' ov 26 1 vs ∧ (∀ c, blkOf ov = some c → N1 < c) ∧ Outer n E met parts k ∧ N1 < N') n ⟨0, List.replicate n false, [], [], .slice none 0 0, Nat.zero_le _, rfl, ⟨rfl, rfl, rfl, rfl, rfl, trivial⟩, hs2R, hm2, ?_, .inl ⟨rfl, rfl⟩, (by intro c hc; cases hc), Outer.start n E, by omega⟩ ?_
  · exact ⟨rfl, by intro i v cs hv hc; simp at hv, by intro i v cs hv hc; simp at hv, by intro i j v v' c hv hc; simp at hv⟩
  rintro m T H3 N3 ⟨k, met, parts, vs, ov, hk, rfl, hT, hs3, hm3, hF, hov, hovb, ho, hN3⟩
  obtain ⟨J, rfl⟩ := hT.ex
  refine wc_own U fun hBN3 hlt3 => ?_
  repeat (first|refine nt ?_|refine nq ?_|refine wq U ?_)
  refine wg U ?_
  refine wr U (rd_lss U rfl rfl) rfl rfl ?_
  refine wz U ?_
  repeat (first|refine nt ?_|refine nq ?_|refine wq U ?_)
  refine wcd U (t := (decide (((k : Nat) : Int) < ((n : Nat) : Int)))) rfl (fun hc => ?_) fun hc => ?_
  · replace hc := of_decide_eq_true hc
    refine wsk U ?_
    repeat (first|refine nt ?_|refine nq ?_)
    have hk1 : k < n := by omega
    obtain ⟨bk, hbk⟩ := get_ex (l := met) (i := k) (by rw [ho.len]; exact hk1)
    repeat (first|refine nt ?_|refine nq ?_|refine wq U ?_)
    refine wc_block U ?_
    repeat (first|refine nt ?_|refine nq ?_|refine wq U ?_)
    refine wg U ?_
    refine wr U ((rm U).to (v' := (.int .i64 ((k : Nat) : Int))) rfl) rfl rfl ?_
    refine wr U ((ra U).to (v' := (.int .i64 ((k : Nat) : Int))) rfl) rfl rfl ?_
    refine wz U ?_
    repeat (first|refine nt ?_|refine nq ?_|refine wq U ?_)
    refine wg U ?_
    refine wr U ((rm U).to (v' := (.slice (some ⟨N1, 0, none⟩) n n)) rfl) rfl rfl ?_
    refine wr U ((rm U).to (v' := (.int .i64 ((k : Nat) : Int))) rfl) rfl rfl ?_
    refine wr U (rd_idx1 U (j := k) sl_67 rfl rfl (by omega)) rfl rfl ?_
    refine wr U (rl1 U el_4 rfl (v := (.bool bk)) (rd_at U (by omega) hm3 (bools_get hbk))) rfl rfl ?_
    refine wz U ?_
    repeat (first|refine nt ?_|refine nq ?_|refine wq U ?_)
    refine wcd U (t := bk) rfl (fun hbt => ?_) fun hbt => ?_
    · skip
      subst hbt
      refine wc_exit U ?_
      repeat (first|refine xt ?_|refine xps (by decide) ?_)
      refine xbl ?_
      repeat (first|refine nt ?_|refine nq ?_)
      repeat (first|refine nt ?_|refine nq ?_|refine wq U ?_)
      refine wg U ?_
      refine wr U (rd_add U rfl rfl (by omega) (by omega)) rfl rfl ?_
      refine wr U ((rm U).to (v' := (.int .i64 (((k : Nat) : Int) + 1))) rfl) rfl rfl ?_
      refine wz U ?_
      repeat (first|refine nt ?_|refine nq ?_)
      exact ⟨n - (k + 1), by omega, k + 1, _, _, _, _, by omega, rfl, ⟨rfl, rfl, rfl, rfl, rfl, trivial⟩, hs3, hm3, hF, hov, hovb, ho.skip hbk, hN3⟩
    · skip
      subst hbt
      refine wsk U ?_
      repeat (first|refine nt ?_|refine nq ?_|refine wq U ?_)
      refine wg U ?_
      refine wr U ((rm U).to (v' := (.slice (some ⟨N1, 0, none⟩) n n)) rfl) rfl rfl ?_
      refine wr U ((rm U).to (v' := (.int .i64 ((k : Nat) : Int))) rfl) rfl rfl ?_
      refine wr U (rd_idx1 U (j := k) sl_67 rfl rfl (by omega)) rfl rfl ?_
      refine wl_op0 U rfl (op_store1 U el_4 rfl rfl rfl rfl hm3 (by omega) (by rw [bools_length, ho.len]; omega) ?_)
      refine wz U ?_
      repeat (first|refine nt ?_|refine nq ?_|refine wq U ?_)
      refine wg U ?_
      refine wr U ((rm U).to (v' := (.int .i64 ((k : Nat) : Int))) rfl) rfl rfl ?_
      refine wl_op U rfl rfl (op_bs U sl_26 rfl (by decide) (by decide) [(.int .i64 ((k : Nat) : Int))] rfl (by simp [Value.cells]) rfl (cs := [(.int .i64 ((k : Nat) : Int))]) rfl ?_)
      refine wr U ((ra U).to (v' := (.slice (some ⟨N3, 0, none⟩) 1 1)) rfl) rfl rfl ?_
      refine wz U ?_
      refine wc_gen U (fun Hs => Hs N1 = some (.row 4 0 (bools (met.set k true)) n) ∧ IsSl Hs (.slice (some ⟨N3, 0, none⟩) 1 1) 3 1 (nats [k]) ∧ ∀ c, c < N3 → c ≠ N1 → Hs c = H3 c) ⟨?_, ?_, ?_⟩ ?_
      · rw [hsn (b := N1) (c := N3) (by omega), hsy]; exact congrArg (fun l => some (Blk.row 4 0 l n)) (bools_set _ _ _)
      · exact .inr ⟨N3, 0, 1, 1, 1, rfl, by rw [hsy]; rfl, rfl, by omega, by omega⟩
      · intro c hc hne; rw [hsn (b := c) (c := N3) (by omega), hsn hne]
      rintro H4 ⟨hm4, hp4, hfr4⟩ hBN4 hlt4
      have hM0 := ho.mid hk1 hbk
      repeat (first|refine nt ?_|refine nq ?_|refine wq U ?_)
      refine wg U ?_
      refine wr U ((ra U).to (v' := (.int .i64 0)) rfl) rfl rfl ?_
      refine wz U ?_
      repeat (first|refine nt ?_|refine nq ?_|refine wq U ?_)
      refine wc_block U ?_
      refine wc_loop U (fun m T H' N' => ∃ (j : Nat) (met' : List Bool) (part : List Nat) (pv : Value), m = n - j ∧ Has T [(2, ov), (3, (.slice pA vsA.length capA)), (4, (.slice (some ⟨N1, 0, none⟩) n n)), (19, (.int .i64 ((n : Nat) : Int))), (20, (.int .i64 ((k : Nat) : Int))), (5, (.int .i64 ((k : Nat) : Int))), (6, pv), (7, (.int .i64 ((j : Nat) : Int)))] ∧ H' N1 = some (.row 4 0 (bools met') n) ∧ IsSl H' pv 3 1 (nats part) ∧ (∀ c, blkOf pv = some c → N3 ≤ c) ∧ (∀ c, c < N3 → c ≠ N1 → H' c = H3 c) ∧ Mid n E met met' part k j ∧ N3 < N') n ⟨0, met.set k true, [k], (.slice (some ⟨N3, 0, none⟩) 1 1), rfl, ⟨rfl, rfl, rfl, rfl, rfl, rfl, rfl, rfl, trivial⟩, hm4, hp4, fun c hc => by simp only [blkOf, Option.some.injEq] at hc; omega, hfr4, hM0, by omega⟩ ?_
      rintro m T H5 N5 ⟨j, met', part, pv, rfl, hT, hm5, hp5, hpb5, hfr5, hM, hN5⟩
      obtain ⟨J, rfl⟩ := hT.ex
      refine wc_own U fun hBN5 hlt5 => ?_
      have hpl := hM.plen
      have hpr := hp5.rds U (fun b o e => (hlt5 b o e).1)
      obtain ⟨pp, capp, rfl, hcp, hpp⟩ := hpr.nums U
      repeat (first|refine nt ?_|refine nq ?_|refine wq U ?_)
      refine wg U ?_
      refine wr U ((rm U).to (v' := (.int .i64 ((j : Nat) : Int))) rfl) rfl rfl ?_
      refine wr U ((rm U).to (v' := (.slice pp part.length capp)) rfl) rfl rfl ?_
      refine wr U ((rd_len' U sl_26 rfl).to (v' := (.int .i64 ((part.length : Nat) : Int))) rfl) rfl rfl ?_
      refine wr U (rd_lss U rfl rfl) rfl rfl ?_
      refine wz U ?_
      repeat (first|refine nt ?_|refine nq ?_|refine wq U ?_)
      refine wcd U (t := (decide (((j : Nat) : Int) < ((part.length : Nat) : Int)))) rfl (fun hcj => ?_) fun hcj => ?_
      · replace hcj := of_decide_eq_true hcj
        refine wsk U ?_
        repeat (first|refine nt ?_|refine nq ?_)
        have hj1 : j < part.length := by omega
        obtain ⟨bp, offp, rfl⟩ := hpp (by omega)
        have hpx : part[j] < n := hM.ltn _ (List.getElem_mem hj1)
        have hs5 : Sub R H5 := fun c o hc => by have := hltR c o hc; rw [hfr5 c (by omega) (by omega)]; exact hs3 c o hc
        obtain ⟨u, hu⟩ := get_ex (l := vsA) (i := part[j]) (by rw [hAn]; exact hpx)
        obtain ⟨xs, hxs⟩ := get_ex (l := arcsL n E) (i := part[j]) (by rw [show (arcsL n E).length = n from arcAcc_length n E _]; exact hpx)
        have hxl : xs.length ≤ 2000 := by have := arcAcc_len n E E.length xs (List.mem_of_getElem? hxs); omega
        have hur := (hAe _ _ _ hu hxs).sub U hs5
        obtain ⟨pu, capu, rfl, hcu, hpu⟩ := hur.arcs U
        obtain ⟨bA, offA, rfl⟩ := hpA (by omega)
        repeat (first|refine nt ?_|refine nq ?_|refine wq U ?_)
        refine wc_block U ?_
        repeat (first|refine nt ?_|refine nq ?_|refine wq U ?_)
        refine wg U ?_
        refine wr U ((rm U).to (v' := (.slice (some ⟨bA, offA, none⟩) vsA.length capA)) rfl) rfl rfl ?_
        refine wr U ((rm U).to (v' := (.slice (some ⟨bp, offp, none⟩) part.length capp)) rfl) rfl rfl ?_
        refine wr U ((rm U).to (v' := (.int .i64 ((j : Nat) : Int))) rfl) rfl rfl ?_
        refine wr U (rd_idx1 U (j := j) sl_26 rfl rfl (by omega)) rfl rfl ?_
        refine wr U (rl1 U el_3 rfl (v := (.int .i64 ((part[j] : Nat) : Int))) (hpr.n0 U hj1)) rfl rfl ?_
        refine wr U (rd_idx1 U (j := part[j]) sl_87 rfl rfl (by omega)) rfl rfl ?_
        refine wr U (rl1 U el_89 rfl (v := (.slice pu xs.length capu)) ((hAr.sub U hs5).get U hu)) rfl rfl ?_
        refine wr U ((rd_len' U sl_89 rfl).to (v' := (.int .i64 ((xs.length : Nat) : Int))) rfl) rfl rfl ?_
        refine wr U ((rm U).to (v' := (.int .i64 0)) rfl) rfl rfl ?_
        refine wz U ?_
        repeat (first|refine nt ?_|refine nq ?_|refine wq U ?_)
        refine wc_block U ?_
        refine wc_loop U (fun m T H' N' => ∃ (i : Nat) (met' : List Bool) (part' : List Nat) (pv : Value), i ≤ xs.length ∧ m = xs.length - i ∧ Has T [(2, ov), (3, (.slice (some ⟨bA, offA, none⟩) vsA.length capA)), (4, (.slice (some ⟨N1, 0, none⟩) n n)), (19, (.int .i64 ((n : Nat) : Int))), (20, (.int .i64 ((k : Nat) : Int))), (5, (.int .i64 ((k : Nat) : Int))), (6, pv), (7, (.int .i64 ((j : Nat) : Int))), (44, (.slice pu xs.length capu)), (45, (.int .i64 ((xs.length : Nat) : Int))), (46, (.int .i64 ((i : Nat) : Int)))] ∧ H' N1 = some (.row 4 0 (bools met') n) ∧ IsSl H' pv 3 1 (nats part') ∧ (∀ c, blkOf pv = some c → N3 ≤ c) ∧ (∀ c, c < N3 → c ≠ N1 → H' c = H3 c) ∧ Mid n E met met' part' k j ∧ part'[j]? = some part[j] ∧ (∀ (q : Nat) (hq : q < xs.length), q < i → met'[(xs[q]).1]? = some true) ∧ N3 < N') xs.length ⟨0, met', part, _, Nat.zero_le _, rfl, ⟨rfl, rfl, rfl, rfl, rfl, rfl, rfl, rfl, rfl, rfl, rfl, trivial⟩, hm5, hp5, hpb5, hfr5, hM, List.getElem?_eq_getElem hj1, by intro q hq h0; omega, hN5⟩ ?_
        rintro m T H6 N6 ⟨i, met6, part6, pv, hi, rfl, hT, hm6, hp6, hpb6, hfr6, hM6, hpj, hq6, hN6⟩
        obtain ⟨J, rfl⟩ := hT.ex
        refine wc_own U fun hBN6 hlt6 => ?_
        repeat (first|refine nt ?_|refine nq ?_|refine wq U ?_)
        refine wg U ?_
        refine wr U (rd_lss U rfl rfl) rfl rfl ?_
        refine wz U ?_
        repeat (first|refine nt ?_|refine nq ?_|refine wq U ?_)
        refine wcd U (t := (decide (((i : Nat) : Int) < ((xs.length : Nat) : Int)))) rfl (fun hci => ?_) fun hci => ?_
        · replace hci := of_decide_eq_true hci
          refine wsk U ?_
          repeat (first|refine nt ?_|refine nq ?_)
          have hi1 : i < xs.length := by omega
          obtain ⟨bu, offu, rfl⟩ := hpu (by omega)
          have hs6 : Sub R H6 := fun c o hc => by have := hltR c o hc; rw [hfr6 c (by omega) (by omega)]; exact hs3 c o hc
          have hur6 := (hAe _ _ _ hu hxs).sub U hs6
          have hadj : adj E part[j] xs[i].1 := (arcsL_adj hg _ _).1 ⟨xs[i].2, by simp only [List.getD_eq_getElem?_getD, hxs, Option.getD_some]; exact List.getElem_mem hi1⟩
          have hyn := (hg.adj_lt hadj).2.1
          obtain ⟨by6, hby⟩ := get_ex (l := met6) (i := xs[i].1) (by rw [hM6.len]; exact hyn)
          repeat (first|refine nt ?_|refine nq ?_|refine wq U ?_)
          refine wc_block U ?_
          repeat (first|refine nt ?_|refine nq ?_|refine wq U ?_)
          refine wg U ?_
          refine wr U (rd_idxN U (j := i) sl_89 rfl rfl (by omega)) rfl rfl ?_
          refine wr U (rd_load2 U el_91 rfl (v0 := (.int .i64 ((xs[i].1 : Nat) : Int))) (v1 := (.int .i64 ((xs[i].2 : Nat) : Int)))  (hur6.a0 U hi1) (hur6.a1 U hi1)) rfl rfl ?_
          refine wl_op U rfl rfl (op_alloc U z_91 rfl ?_)
          refine wl_op0 U rfl (op_store U (vs := [(.int .i64 ((xs[i].1 : Nat) : Int)), (.int .i64 ((xs[i].2 : Nat) : Int))]) (cs := [(.int .i64 0), (.int .i64 0)]) el_91 rfl rfl rfl rfl (one2 rfl rfl) (by first|(rw [hsy]; done) | (rw [hsy]; rfl)) (by omega) (by simp) ?_)
          refine wz U ?_
          repeat (first|refine nt ?_|refine nq ?_|refine wq U ?_)
          refine wg U ?_
          refine wr U ((rm U).to (v' := (.slice (some ⟨N1, 0, none⟩) n n)) rfl) rfl rfl ?_
          refine wr U ((rfa U fb_91_0 rfl).to (v' := (.pointer (some ⟨N6, 0, none⟩))) rfl) rfl rfl ?_
          refine wr U (rl1 U el_3 rfl (v := (.int .i64 ((xs[i].1 : Nat) : Int))) (by rw [rhq U (by omega)]; rfl)) rfl rfl ?_
          refine wr U (rd_idx1 U (j := xs[i].1) sl_67 rfl rfl (by omega)) rfl rfl ?_
          refine wr U (rl1 U el_4 rfl (v := (.bool by6)) (rd_at U (by omega) (by rw [hsn (b := N1) (c := N6) (by omega), hsn (b := N1) (c := N6) (by omega)]; exact hm6) (bools_get hby))) rfl rfl ?_
          refine wr U (rd_not U rfl) rfl rfl ?_
          refine wz U ?_
          refine wc_gen U (fun Hs => Hs N1 = some (.row 4 0 (bools met6) n) ∧ Hs N6 = some (.row 91 0 [(.int .i64 ((xs[i].1 : Nat) : Int)), (.int .i64 ((xs[i].2 : Nat) : Int))] 2) ∧ IsSl Hs pv 3 1 (nats part6) ∧ ∀ c, c < N3 → c ≠ N1 → Hs c = H3 c) ⟨(by rw [hsn (b := N1) (c := N6) (by omega), hsn (b := N1) (c := N6) (by omega)]; exact hm6), (by first|(rw [hsy]; done) | (rw [hsy]; rfl)), ?_, ?_⟩ ?_
          · exact hp6.at fun c hc => by have := hp6.lt hlt6 hc; rw [hsn (b := c) (c := N6) (by omega), hsn (b := c) (c := N6) (by omega)]
          · intro c hc hne; rw [hsn (b := c) (c := N6) (by omega), hsn (b := c) (c := N6) (by omega)]; exact hfr6 c hc hne
          rintro H7 ⟨hm7, ha7, hp7, hfr7⟩ hBN7 hlt7
          obtain ⟨hjl, hje⟩ := List.getElem?_eq_some_iff.1 hpj
          repeat (first|refine nt ?_|refine nq ?_|refine wq U ?_)
          refine wcd U (t := (!by6)) rfl (fun hbt => ?_) fun hbt => ?_
          · skip
            have hbf : by6 = false := by simpa using hbt
            subst hbf
            repeat (first|refine nt ?_|refine nq ?_|refine wq U ?_)
            refine wg U ?_
            refine wr U ((rm U).to (v' := (.slice (some ⟨N1, 0, none⟩) n n)) rfl) rfl rfl ?_
            refine wr U ((rfa U fb_91_0 rfl).to (v' := (.pointer (some ⟨N6, 0, none⟩))) rfl) rfl rfl ?_
            refine wr U (rl1 U el_3 rfl (v := (.int .i64 ((xs[i].1 : Nat) : Int))) (by rw [rrw U (by omega) ha7]; rfl)) rfl rfl ?_
            refine wr U (rd_idx1 U (j := xs[i].1) sl_67 rfl rfl (by omega)) rfl rfl ?_
            refine wl_op0 U rfl (op_store1 U el_4 rfl rfl rfl rfl hm7 (by omega) (by rw [bools_length, hM6.len]; omega) ?_)
            refine wz U ?_
            refine wc_gen U (fun Hs => Hs N1 = some (.row 4 0 (bools (met6.set xs[i].1 true)) n) ∧ Hs N6 = some (.row 91 0 [(.int .i64 ((xs[i].1 : Nat) : Int)), (.int .i64 ((xs[i].2 : Nat) : Int))] 2) ∧ IsSl Hs pv 3 1 (nats part6) ∧ ∀ c, c < N3 → c ≠ N1 → Hs c = H3 c) ⟨hsy.trans (congrArg (fun l => some (Blk.row 4 0 l n)) (bools_set _ _ _)), (hsn (by omega)).trans ha7, hp7.at fun c hc => hsn (by have := hpb6 c hc; omega), fun c hc hne => (hsn hne).trans (hfr7 c hc hne)⟩ ?_
            rintro H8 ⟨hm8, ha8, hp8, hfr8⟩ hBN8 hlt8
            repeat (first|refine nt ?_|refine nq ?_|refine wq U ?_)
            refine wg U ?_
            refine wr U ((rm U).to (v' := pv) rfl) rfl rfl ?_
            refine wr U ((rfa U fb_91_0 rfl).to (v' := (.pointer (some ⟨N6, 0, none⟩))) rfl) rfl rfl ?_
            refine wr U (rl1 U el_3 rfl (v := (.int .i64 ((xs[i].1 : Nat) : Int))) (by rw [rrw U (by omega) ha8]; rfl)) rfl rfl ?_
            refine wl_op U rfl rfl (op_bs U sl_26 rfl (by decide) (by decide) [(.int .i64 ((xs[i].1 : Nat) : Int))] rfl (by simp [Value.cells]) rfl (cs := [(.int .i64 ((xs[i].1 : Nat) : Int))]) rfl ?_)
            refine wl_op U rfl rfl (op_append1 U (H0 := _) (cs := nats part6) (ys := [(.int .i64 ((xs[i].1 : Nat) : Int))]) sl_26 rfl (by decide) rfl hp8 (fun hc => by have := hp8.lt hlt8 hc; omega) rfl rfl rfl (by omega) (one1 rfl) (by rw [nats_length]; have := hM6.plen; omega) (by rw [nats_length]; have := hM6.plen; omega) ?_)
            intro wA HA NA hNA hslA hfrA hloA
            refine wr U ((ra U).to (v' := wA) rfl) rfl rfl ?_
            refine wz U ?_
            repeat (first|refine nt ?_|refine nq ?_)
            repeat (first|refine nt ?_|refine nq ?_|refine wq U ?_)
            refine wg U ?_
            refine wr U (rd_add U rfl rfl (by omega) (by omega)) rfl rfl ?_
            refine wr U ((rm U).to (v' := (.int .i64 (((i : Nat) : Int) + 1))) rfl) rfl rfl ?_
            refine wz U ?_
            repeat (first|refine nt ?_|refine nq ?_)
            refine ⟨xs.length - (i + 1), by omega, i + 1, met6.set xs[i].1 true, part6 ++ [xs[i].1], wA, by omega, rfl, ⟨rfl, rfl, rfl, rfl, rfl, rfl, rfl, rfl, rfl, rfl, rfl, trivial⟩, (hfrA N1 (by omega) (fun hc => by have := hpb6 _ hc; omega)).trans ((hsn (by omega)).trans hm8), by rw [nats_append]; exact hslA, ?_, fun c hc hne => (hfrA c (by omega) (fun h => by have := hpb6 _ h; omega)).trans ((hsn (by omega)).trans (hfr8 c hc hne)), hM6.push hjl (by rw [hje]; exact hadj) hyn hby, (List.getElem?_append_left hjl).trans hpj, ?_, by omega⟩
            · intro c hc; obtain ⟨c2, h1, h2, h3⟩ := hloA; rw [h1] at hc; cases hc; rcases h3 with h3 | h3
              · exact hpb6 _ h3
              · omega
            · intro q hq hqi
              rcases Nat.lt_or_ge q i with h | h
              · rw [List.getElem?_set]; split
                · rename_i he; rw [if_pos (by rw [hM6.len]; exact hyn)]
                · exact hq6 q hq h
              · obtain rfl : q = i := by omega
                rw [List.getElem?_set, if_pos rfl, if_pos (by rw [hM6.len]; exact hyn)]
          · skip
            have hbf : by6 = true := by simpa using hbt
            subst hbf
            refine wsk U ?_
            repeat (first|refine nt ?_|refine nq ?_)
            repeat (first|refine nt ?_|refine nq ?_|refine wq U ?_)
            refine wg U ?_
            refine wr U (rd_add U rfl rfl (by omega) (by omega)) rfl rfl ?_
            refine wr U ((rm U).to (v' := (.int .i64 (((i : Nat) : Int) + 1))) rfl) rfl rfl ?_
            refine wz U ?_
            repeat (first|refine nt ?_|refine nq ?_)
            refine ⟨xs.length - (i + 1), by omega, i + 1, met6, part6, pv, by omega, rfl, ⟨rfl, rfl, rfl, rfl, rfl, rfl, rfl, rfl, rfl, rfl, rfl, trivial⟩, hm7, hp7, hpb6, hfr7, hM6, hpj, ?_, by omega⟩
            intro q hq hqi; rcases Nat.lt_or_ge q i with h | h
            · exact hq6 q hq h
            · obtain rfl : q = i := by omega
              exact hby
        · replace hci := of_decide_eq_false hci
          refine wc_exit U ?_
          repeat (first|refine xt ?_|refine xps (by decide) ?_)
          refine xbl ?_
          repeat (first|refine nt ?_|refine nq ?_)
          obtain ⟨hjl, hje⟩ := List.getElem?_eq_some_iff.1 hpj
          have hMn := hM6.next hjl (by
            intro y hy; rw [hje] at hy
            obtain ⟨q, hq⟩ := (arcsL_adj hg _ _).2 hy
            simp only [List.getD_eq_getElem?_getD, hxs, Option.getD_some] at hq
            obtain ⟨r, hr, hre⟩ := List.getElem_of_mem hq
            have := hq6 r hr (by omega); rw [hre] at this; exact this)
          repeat (first|refine nt ?_|refine nq ?_|refine wq U ?_)
          refine wg U ?_
          refine wr U ((rm U).to (v' := (.int .i64 ((j : Nat) : Int))) rfl) rfl rfl ?_
          refine wr U (rd_add U rfl rfl (by omega) (by omega)) rfl rfl ?_
          refine wr U ((ra U).to (v' := (.int .i64 (((j : Nat) : Int) + 1))) rfl) rfl rfl ?_
          refine wz U ?_
          repeat (first|refine nt ?_|refine nq ?_)
          exact ⟨n - (j + 1), by omega, j + 1, met6, part6, pv, rfl, ⟨rfl, rfl, rfl, rfl, rfl, rfl, rfl, rfl, trivial⟩, hm6, hp6, hpb6, hfr6, hMn, hN6⟩
      · replace hcj := of_decide_eq_false hcj
        refine wc_exit U ?_
        repeat (first|refine xt ?_|refine xps (by decide) ?_)
        refine xbl ?_
        repeat (first|refine nt ?_|refine nq ?_)
        have hjp : j = part.length := by have := hM.le; omega
        subst hjp
        repeat (first|refine nt ?_|refine nq ?_|refine wq U ?_)
        refine wg U ?_
        refine wr U ((rm U).to (v' := (.slice pp part.length capp)) rfl) rfl rfl ?_
        refine wl_op U rfl rfl (op_call U Tryz.f22 rfl rfl pf_22 (by kernel_rfl) (by kernel_rfl) ((s22 U _ part _ _ hp5 (by omega)).mono U ?_))
        rintro _ H7 N7 ⟨rfl, hN7, hsl7, hfr7⟩
        refine wz U ?_
        repeat (first|refine nt ?_|refine nq ?_|refine wq U ?_)
        refine wg U ?_
        refine wl_own U fun hBN7 hlt7 => ?_
        refine wr U ((rm U).to (v' := ov) rfl) rfl rfl ?_
        refine wr U ((rm U).to (v' := (.slice pp part.length capp)) rfl) rfl rfl ?_
        refine wl_op U rfl rfl (op_bs U sl_25 rfl (by decide) (by decide) [(.slice pp part.length capp)] rfl (by simp [Value.cells]) rfl (cs := [(.slice pp part.length capp)]) rfl ?_)
        have hpne : ∀ c, c < N3 → blkOf (.slice pp part.length capp) ≠ some c := fun c hc h => by have := hpb5 c h; omega
        have h73 : ∀ c, c < N3 → c ≠ N1 → H7 c = H3 c := fun c hc hne => (hfr7 c (hpne c hc)).trans (hfr5 c hc hne)
        have hovl : ∀ c, blkOf ov = some c → N1 < c ∧ c < N3 := fun c hc => ⟨hovb c hc, (hov.lt hlt3 hc).2⟩
        have hvl : vs.length ≤ 64 := by have := hF.len; rw [List.length_map] at this; have := ho.pl; omega
        refine wl_op U rfl rfl (op_append1 U (H0 := _) (cs := vs) (ys := [(.slice pp part.length capp)]) sl_25 rfl (by decide) rfl (hov.at fun c hc => h73 c (hovl c hc).2 (by have := hovl c hc; omega)) (fun hc => by have := hovl _ hc; omega) rfl rfl rfl (by omega) (one1 rfl) (by omega) (by omega) ?_)
        intro wB HB NB hNB hslB hfrB hloB
        refine wr U ((ra U).to (v' := wB) rfl) rfl rfl ?_
        refine wz U ?_
        repeat (first|refine nt ?_|refine nq ?_)
        repeat (first|refine nt ?_|refine nq ?_|refine wq U ?_)
        refine wg U ?_
        refine wr U (rd_add U rfl rfl (by omega) (by omega)) rfl rfl ?_
        refine wr U ((rm U).to (v' := (.int .i64 (((k : Nat) : Int) + 1))) rfl) rfl rfl ?_
        refine wz U ?_
        repeat (first|refine nt ?_|refine nq ?_)
        have hB1 : ∀ c, c < N7 → blkOf ov ≠ some c → HB c = H7 c := fun c hc hne => (hfrB c (by omega) hne).trans (hsn (by omega))
        have hpb7 := fun c hc => hsl7.lt hlt7 (c := c) hc
        have hnov : ∀ (i : Nat) (u : Value) (c : Nat), vs[i]? = some u → blkOf u = some c → blkOf ov ≠ some c := fun i u c hu hc hoc => by
          obtain ⟨off, tot, hrow⟩ := hov.blk hoc
          exact hF.not hu hrow (by decide) hc
        refine ⟨n - (k + 1), by omega, k + 1, met', parts ++ [sortN part], vs ++ [(.slice pp part.length capp)], wB, by omega, rfl, ⟨rfl, rfl, rfl, rfl, rfl, trivial⟩, ?_, ?_, ?_, hslB, ?_, ho.push hM, by omega⟩
        · intro c o hc; have hcl := hltR c o hc; rw [hB1 c (by omega) (fun h => by have := hovl _ h; omega), h73 c (by omega) (by omega)]; exact hs3 c o hc
        · rw [hB1 N1 (by omega) (fun h => by have := hovl _ h; omega), hfr7 N1 (hpne _ (by omega))]; exact hm5
        · rw [List.map_append]
          refine (hF.keep2 (fun i u c hu hc => ?_) (by omega)).push (hsl7.at fun c hc => hB1 c (hpb7 c hc).2 (fun h => by have := hovl _ h; have := hpb5 c hc; omega)) (fun c hc => ⟨by have := hpb5 c hc; omega, by have := hpb7 c hc; omega⟩) (fun i u c hu hc hpc => by have := hF.gt i u c hu hc; have := hpb5 c hpc; omega)
          have hcl := hF.gt i u c hu hc; rw [hB1 c (by omega) (hnov i u c hu hc), h73 c (by omega) (by omega)]
        · intro c hc; obtain ⟨c2, h1, h2, h3⟩ := hloB; rw [h1] at hc; cases hc; rcases h3 with h3 | h3
          · exact hovb _ h3
          · omega
  · replace hc := of_decide_eq_false hc
    refine wc_exit U ?_
    repeat (first|refine xt ?_|refine xps (by decide) ?_)
    refine xbl ?_
    repeat (first|refine nt ?_|refine nq ?_)
    have hkn : k = n := by omega
    rw [hkn] at ho
    repeat (first|refine nt ?_|refine nq ?_|refine wq U ?_)
    refine wg U ?_
    refine wr U ((rm U).to (v' := ov) rfl) rfl rfl ?_
    refine wr U ((ra U).to (v' := ov) rfl) rfl rfl ?_
    refine wz U ?_
    refine wc_ret U ?_
    repeat (first|refine ret1 ?_|refine ret2 ?_)
    exact end1 U (.inl rfl) rfl (v := ov) rfl ⟨parts, ho.comps, ⟨vs, (hov.at fun c hc => hiH_ge (by have := hovb c hc; omega)).rds U (fun b o e => (hlt3 b o (hiH_sub _ _ _ _ e)).1), by rw [hF.len, List.length_map], fun i u xs hu hx => ((hF.sl i u (nats xs) hu (by rw [List.getElem?_map, hx]; rfl)).at fun c hc => hiH_ge (by have := hF.gt i u c hu hc; omega)).rds U (fun b o e => (hlt3 b o (hiH_sub _ _ _ _ e)).1)⟩, hsR.trans hs3, by omega⟩
theorem s36 (n : Nat) (E : List NE) (sv : Value) (hg : GOk n E) (H : Hp) (N : Nat) (hv : RdS U H sv 3 (necs E)) : Spec U 36 #[(.agg #[(.int .i64 ((n : Nat) : Int)), sv])] H N (fun v H' N' => ∃ cs, Comps n E cs ∧ Rd2 U H' v cs ∧ Sub H H' ∧ N ≤ N') :=
  (s36h U n E sv hg H N hv).mono U fun v H' N' ⟨cs, h1, h2, h3, h4⟩ => ⟨cs, h1, h2.sub U (hiH_sub _ _), h3, h4⟩
end Go.Proofs.YtdmodppoellbkaaGreat
namespace Go.Proofs.YtdmodppoellbkaaGreat
open Go Go.RowKit
variable (U : Cx)
theorem endCell {T : Tm} {H : Hp} {N : Nat} {K : Value → Hp → Nat → Prop} {fn : Func} {e : Exit} {t ty b : Nat} {v0 v1 : Value} (he : e = .ret ∨ e = .normal) (hf : fn.results = #[.cell t ty]) (ht : eltB ty 2 true = true) (hv : T t = .pointer (some ⟨b, 0, none⟩))
    (h0 : rd U H b 0 = some v0) (h1 : rd U H b 1 = some v1) (hk : K (.agg #[v0, v1]) H N) : bodyQ U fn K e T H N := endQ U he (fun a w h ho => by
  obtain ⟨d, inf, hu, hi, ha, hs⟩ := eltB_out ht
  have hc := run_loadCells_list (P := P) w ⟨b, 0, none⟩ [v0, v1] (fun j v hj => by
    rw [add_none]
    match j, hj with
    | 0, hj => cases hj; exact ho.hold.rd U h0
    | 1, hj => cases hj; exact ho.hold.rd U h1)
  have h2 := h t
  rw [hv] at h2
  simp only [Array.getD_eq_getD_getElem?] at h2
  simp [results, hf, h2, asAddr, loadVar, run_isAgg hu, ha, run_sizeOf' hi, hs] at hc ⊢
  simp [hc]) hk
theorem RdS.at {H H' : Hp} {v : Value} {sz : Nat} {cs : List Value} (h : RdS U H v sz cs) (hs : ∀ c, blkOf v = some c → H' c = H c) : RdS U H' v sz cs := by
  obtain ⟨p, k, cap, rfl, h2, h3, h4⟩ := h
  refine ⟨p, k, cap, rfl, h2, h3, fun hk => ?_⟩
  obtain ⟨b, off, rfl, h6⟩ := h4 hk
  refine ⟨b, off, rfl, fun j u hu => ?_⟩
  have := h6 j u hu
  unfold rd at this ⊢
  rw [hs b rfl]; exact this
theorem endCellT {T : Tm} {H : Hp} {N : Nat} {K : Value → Hp → Nat → Prop} {fn : Func} {e : Exit} {t ty b u : Nat} {v0 v1 v2 : Value} (he : e = .ret ∨ e = .normal) (hf : fn.results = #[.cell t ty, .tmp u]) (ht : eltB ty 2 true = true) (hv : T t = .pointer (some ⟨b, 0, none⟩)) (hu' : T u = v2)
    (h0 : rd U H b 0 = some v0) (h1 : rd U H b 1 = some v1) (hk : K (.tuple #[.agg #[v0, v1], v2]) H N) : bodyQ U fn K e T H N := endQ U he (fun a w h ho => by
  obtain ⟨d, inf, hu, hi, ha, hs⟩ := eltB_out ht
  have hc := run_loadCells_list (P := P) w ⟨b, 0, none⟩ [v0, v1] (fun j v hj => by
    rw [add_none]
    match j, hj with
    | 0, hj => cases hj; exact ho.hold.rd U h0
    | 1, hj => cases hj; exact ho.hold.rd U h1)
  have h2 := h t
  rw [hv] at h2
  have h3 := h u
  rw [hu'] at h3
  simp only [Array.getD_eq_getD_getElem?] at h2 h3
  simp [results, hf, h2, h3, asAddr, loadVar, run_isAgg hu, ha, run_sizeOf' hi, hs] at hc ⊢
  simp [hc]) hk
def eOf (keep : List Bool) (e : NE) : Bool := keep.getD e.1 false && keep.getD e.2.1 false
def onlyE (E : List NE) (keep : List Bool) : List NE := E.filter (eOf keep)
theorem onlyE_succ (E : List NE) (keep : List Bool) {k : Nat} (hk : k < E.length) : onlyE (E.take (k + 1)) keep = onlyE (E.take k) keep ++ (if eOf keep E[k] then [E[k]] else []) := by
  rw [onlyE, List.take_succ_eq_append_getElem hk, List.filter_append]
  congr 1
  by_cases h : eOf keep E[k] <;> simp [h]
theorem onlyE_ok {n : Nat} {E : List NE} (h : GOk n E) (keep : List Bool) : GOk n (onlyE E keep) :=
  ⟨h.hn, Nat.le_trans (List.length_filter_le _ _) h.hm, fun e he => h.he e (List.mem_filter.1 he).1, h.hs.filter _⟩
theorem onlyE_len (E : List NE) (keep : List Bool) (k : Nat) : (onlyE (E.take k) keep).length ≤ E.length :=
  Nat.le_trans (List.length_filter_le _ _) (by rw [List.length_take]; omega)
end Go.Proofs.YtdmodppoellbkaaGreat
namespace Go.Proofs.YtdmodppoellbkaaGreat
open Go Go.RowKit
variable (U : Cx)
theorem s55 (x : Nat) (kb : Nat) (kv : Value) (keep : List Bool) (H : Hp) (N : Nat) (hb : H kb = some (.row 67 0 [kv] 1)) (hk : RdS U H kv 1 (bools keep)) : Spec U 55 #[(.int .i64 ((x : Nat) : Int)), (.pointer (some ⟨kb, 0, none⟩))] H N (fun v H' N' => v = .bool (keep.getD x false) ∧ H = H' ∧ N = N') := by
  obtain ⟨p, cap, rfl, hc, hp⟩ := hk.cells1 U
  simp only [bools_length] at hc hp
  have hb2 : H kb = some (.row 67 0 [(.slice p keep.length cap)] 1) := by simpa [bools_length] using hb
  have hk2 : RdS U H (.slice p keep.length cap) 1 (bools keep) := by simpa [bools_length] using hk
  clear hb hk
  refine spa U pf_55 (m := 14) rfl rfl (by simp) fun hBN hlt => ?_
  obtain ⟨J, hJ⟩ := Has.ex (T := argsT #[(.int .i64 ((x : Nat) : Int)), (.pointer (some ⟨kb, 0, none⟩))]) (l := [(0, (.int .i64 ((x : Nat) : Int))), (1, (.pointer (some ⟨kb, 0, none⟩)))]) ⟨rfl, rfl, trivial⟩
  rw [hJ]; clear hJ
  have hkB := (hlt _ _ hb2).1
  repeat (first|refine nt ?_|refine nq ?_|refine wq U ?_)
  refine wg U ?_
  refine wr U ((ra U).to (v' := (.bool false)) rfl) rfl rfl ?_
  refine wz U ?_
  rcases Nat.lt_or_ge x keep.length with hx | hx
  · obtain ⟨kx, hkx⟩ := get_ex hx
    obtain ⟨b, off, rfl⟩ := hp (by omega)
    repeat (first|refine nt ?_|refine nq ?_|refine wq U ?_)
    refine wg U ?_
    refine wr U ((rm U).to (v' := (.int .i64 ((x : Nat) : Int))) rfl) rfl rfl ?_
    refine wr U (rl1 U el_67 rfl (v := (.slice (some ⟨b, off, none⟩) keep.length cap)) (by rw [rrw U hkB hb2]; rfl)) rfl rfl ?_
    refine wr U ((rd_len' U sl_67 rfl).to (v' := (.int .i64 ((keep.length : Nat) : Int))) rfl) rfl rfl ?_
    refine wr U ((rd_lss U rfl rfl).to (v' := (.bool true)) (congrArg Value.bool (decide_eq_true (by omega)))) rfl rfl ?_
    refine wr U ((rm U).to (v' := (.bool true)) rfl) rfl rfl ?_
    refine wr U (rl1 U el_67 rfl (v := (.slice (some ⟨b, off, none⟩) keep.length cap)) (by rw [rrw U hkB hb2]; rfl)) rfl rfl ?_
    refine wr U ((rm U).to (v' := (.int .i64 ((x : Nat) : Int))) rfl) rfl rfl ?_
    refine wr U (rd_idx1 U (j := x) sl_67 rfl rfl (by omega)) rfl rfl ?_
    refine wr U (rl1 U el_4 rfl (v := (.bool kx)) (hk2.get U (bools_get hkx))) rfl rfl ?_
    refine wr U ((rd_pick U rfl).to (v' := (.bool kx)) rfl) rfl rfl ?_
    refine wr U ((ra U).to (v' := (.bool kx)) rfl) rfl rfl ?_
    refine wz U ?_
    refine wc_ret U ?_
    repeat (first|refine ret1 ?_|refine ret2 ?_)
    exact end1 U (.inl rfl) rfl (v := (.bool kx)) rfl ⟨by rw [List.getD_eq_getElem?_getD, hkx]; rfl, rfl, rfl⟩
  · skip
    repeat (first|refine nt ?_|refine nq ?_|refine wq U ?_)
    refine wg U ?_
    refine wr U ((rm U).to (v' := (.int .i64 ((x : Nat) : Int))) rfl) rfl rfl ?_
    refine wr U (rl1 U el_67 rfl (v := (.slice p keep.length cap)) (by rw [rrw U hkB hb2]; rfl)) rfl rfl ?_
    refine wr U ((rd_len' U sl_67 rfl).to (v' := (.int .i64 ((keep.length : Nat) : Int))) rfl) rfl rfl ?_
    refine wr U ((rd_lss U rfl rfl).to (v' := (.bool false)) (congrArg Value.bool (decide_eq_false (by omega)))) rfl rfl ?_
    refine wr U ((rm U).to (v' := (.bool false)) rfl) rfl rfl ?_
    refine wl_pass U rfl rfl ?_
    refine wl_pass U rfl rfl ?_
    refine wl_pass U rfl rfl ?_
    refine wl_pass U rfl rfl ?_
    refine wr U ((rd_pick U rfl).to (v' := (.bool false)) rfl) rfl rfl ?_
    refine wr U ((ra U).to (v' := (.bool false)) rfl) rfl rfl ?_
    refine wz U ?_
    refine wc_ret U ?_
    repeat (first|refine ret1 ?_|refine ret2 ?_)
    exact end1 U (.inl rfl) rfl (v := (.bool false)) rfl ⟨by rw [List.getD_eq_getElem?_getD, List.getElem?_eq_none hx]; rfl, rfl, rfl⟩
theorem s57 (i : Int) (e : NE) (fb kb : Nat) (kv : Value) (keep : List Bool) (H : Hp) (N : Nat) (hf : H fb = some (.row 63 0 [(.func (.func 55) #[] #[(.pointer (some ⟨kb, 0, none⟩))])] 1)) (hb : H kb = some (.row 67 0 [kv] 1)) (hk : RdS U H kv 1 (bools keep)) : Spec U 57 #[(.int .i64 i), (.agg #[(.int .i64 ((e.1 : Nat) : Int)), (.int .i64 ((e.2.1 : Nat) : Int)), (.int .i64 e.2.2)]), (.pointer (some ⟨fb, 0, none⟩))] H N (fun v H' N' => v = .bool (eOf keep e) ∧ Sub H H' ∧ N ≤ N') := by
  refine spa U pf_57 (m := 16) rfl rfl (by simp) fun hBN hlt => ?_
  obtain ⟨J, hJ⟩ := Has.ex (T := argsT #[(.int .i64 i), (.agg #[(.int .i64 ((e.1 : Nat) : Int)), (.int .i64 ((e.2.1 : Nat) : Int)), (.int .i64 e.2.2)]), (.pointer (some ⟨fb, 0, none⟩))]) (l := [(0, (.int .i64 i)), (1, (.agg #[(.int .i64 ((e.1 : Nat) : Int)), (.int .i64 ((e.2.1 : Nat) : Int)), (.int .i64 e.2.2)])), (2, (.pointer (some ⟨fb, 0, none⟩)))]) ⟨rfl, rfl, rfl, trivial⟩
  rw [hJ]; clear hJ
  have hfB := (hlt _ _ hf).1
  have hfl := (hlt _ _ hf).2
  have hkl := (hlt _ _ hb).2
  repeat (first|refine nt ?_|refine nq ?_|refine wq U ?_)
  refine wg U ?_
  refine wl_op U rfl rfl (op_box U rfl rfl ?_)
  refine wr U ((ra U).to (v' := (.bool false)) rfl) rfl rfl ?_
  refine wz U ?_
  cases hk1 : keep.getD e.1 false
  · skip
    repeat (first|refine nt ?_|refine nq ?_|refine wq U ?_)
    refine wg U ?_
    refine wr U (rl1 U el_63 rfl (v := (.func (.func 55) #[] #[(.pointer (some ⟨kb, 0, none⟩))])) (by rw [rhn U (b := fb) (c := N) (by omega), rrw U hfB hf]; rfl)) rfl rfl ?_
    refine wr U ((rfa U fb_43_0 rfl).to (v' := (.pointer (some ⟨N, 0, none⟩))) rfl) rfl rfl ?_
    refine wr U (rl1 U el_3 rfl (v := (.int .i64 ((e.1 : Nat) : Int))) (by rw [rhq U (by omega)]; rfl)) rfl rfl ?_
    refine wl_op U rfl rfl (op_call U Tryz.f55 rfl rfl pf_55 (by kernel_rfl) (by kernel_rfl) ((s55 U e.1 kb kv keep _ _ (((Sub.refl H).hset (fresh hlt (by omega))) _ _ hb) (hk.sub U ((Sub.refl H).hset (fresh hlt (by omega))))).mono U ?_))
    rintro _ _ _ ⟨rfl, rfl, rfl⟩
    refine wr U ((rm U).to (v' := (.bool (keep.getD e.1 false))) rfl) rfl rfl ?_
    rw [hk1]
    refine wl_pass U rfl rfl ?_
    refine wl_pass U rfl rfl ?_
    refine wl_pass U rfl rfl ?_
    refine wl_pass U rfl rfl ?_
    refine wr U ((rd_pick U rfl).to (v' := (.bool false)) rfl) rfl rfl ?_
    refine wr U ((ra U).to (v' := (.bool false)) rfl) rfl rfl ?_
    refine wz U ?_
    refine wc_ret U ?_
    repeat (first|refine ret1 ?_|refine ret2 ?_)
    exact end1 U (.inl rfl) rfl (v := (.bool false)) rfl ⟨by rw [eOf, hk1]; rfl, ((Sub.refl H).hset (fresh hlt (by omega))), by omega⟩
  · skip
    repeat (first|refine nt ?_|refine nq ?_|refine wq U ?_)
    refine wg U ?_
    refine wr U (rl1 U el_63 rfl (v := (.func (.func 55) #[] #[(.pointer (some ⟨kb, 0, none⟩))])) (by rw [rhn U (b := fb) (c := N) (by omega), rrw U hfB hf]; rfl)) rfl rfl ?_
    refine wr U ((rfa U fb_43_0 rfl).to (v' := (.pointer (some ⟨N, 0, none⟩))) rfl) rfl rfl ?_
    refine wr U (rl1 U el_3 rfl (v := (.int .i64 ((e.1 : Nat) : Int))) (by rw [rhq U (by omega)]; rfl)) rfl rfl ?_
    refine wl_op U rfl rfl (op_call U Tryz.f55 rfl rfl pf_55 (by kernel_rfl) (by kernel_rfl) ((s55 U e.1 kb kv keep _ _ (((Sub.refl H).hset (fresh hlt (by omega))) _ _ hb) (hk.sub U ((Sub.refl H).hset (fresh hlt (by omega))))).mono U ?_))
    rintro _ _ _ ⟨rfl, rfl, rfl⟩
    refine wr U ((rm U).to (v' := (.bool (keep.getD e.1 false))) rfl) rfl rfl ?_
    rw [hk1]
    refine wr U (rl1 U el_63 rfl (v := (.func (.func 55) #[] #[(.pointer (some ⟨kb, 0, none⟩))])) (by rw [rhn U (b := fb) (c := N) (by omega), rrw U hfB hf]; rfl)) rfl rfl ?_
    refine wr U ((rfa U fb_43_1 rfl).to (v' := (.pointer (some ⟨N, 1, none⟩))) rfl) rfl rfl ?_
    refine wr U (rl1 U el_3 rfl (v := (.int .i64 ((e.2.1 : Nat) : Int))) (by rw [rhq U (by omega)]; rfl)) rfl rfl ?_
    refine wl_op U rfl rfl (op_call U Tryz.f55 rfl rfl pf_55 (by kernel_rfl) (by kernel_rfl) ((s55 U e.2.1 kb kv keep _ _ (((Sub.refl H).hset (fresh hlt (by omega))) _ _ hb) (hk.sub U ((Sub.refl H).hset (fresh hlt (by omega))))).mono U ?_))
    rintro _ _ _ ⟨rfl, rfl, rfl⟩
    refine wr U ((rd_pick U rfl).to (v' := (.bool (keep.getD e.2.1 false))) rfl) rfl rfl ?_
    refine wr U ((ra U).to (v' := (.bool (keep.getD e.2.1 false))) rfl) rfl rfl ?_
    refine wz U ?_
    refine wc_ret U ?_
    repeat (first|refine ret1 ?_|refine ret2 ?_)
    exact end1 U (.inl rfl) rfl (v := (.bool (keep.getD e.2.1 false))) rfl ⟨by rw [eOf, hk1]; rfl, ((Sub.refl H).hset (fresh hlt (by omega))), by omega⟩
end Go.Proofs.YtdmodppoellbkaaGreat
namespace Go.Proofs.YtdmodppoellbkaaGreat
open Go Go.RowKit
variable (U : Cx)
theorem s56 (n : Nat) (E : List NE) (sv : Value) (fb kb : Nat) (kv : Value) (keep : List Bool) (hg : GOk n E) (H : Hp) (N : Nat) (hv : RdS U H sv 3 (necs E)) (hf : H fb = some (.row 63 0 [(.func (.func 55) #[] #[(.pointer (some ⟨kb, 0, none⟩))])] 1)) (hb : H kb = some (.row 67 0 [kv] 1)) (hk : RdS U H kv 1 (bools keep)) : Spec U 56 #[(.agg #[(.int .i64 ((n : Nat) : Int)), sv]), (.func (.func 57) #[] #[(.pointer (some ⟨fb, 0, none⟩))])] H N (fun v H' N' => ∃ ov, v = .agg #[.int .i64 ((n : Nat) : Int), ov] ∧ RdS U H' ov 3 (necs (onlyE E keep)) ∧ (∀ c, blkOf ov = some c → N ≤ c) ∧ Sub H H' ∧ N ≤ N') := by
  obtain ⟨p, cap, rfl, hc, hp⟩ := hv.edges U
  refine spa U pf_56 (m := 35) rfl rfl (by simp) fun hBN hlt => ?_
  obtain ⟨J, hJ⟩ := Has.ex (T := argsT #[(.agg #[(.int .i64 ((n : Nat) : Int)), (.slice p E.length cap)]), (.func (.func 57) #[] #[(.pointer (some ⟨fb, 0, none⟩))])]) (l := [(0, (.agg #[(.int .i64 ((n : Nat) : Int)), (.slice p E.length cap)])), (1, (.func (.func 57) #[] #[(.pointer (some ⟨fb, 0, none⟩))]))]) ⟨rfl, rfl, trivial⟩
  rw [hJ]; clear hJ
  have hn64 := hg.hn; have hm := hg.hm
  repeat (first|refine nt ?_|refine nq ?_|refine wq U ?_)
  refine wg U ?_
  refine wl_op U rfl rfl (op_box U rfl rfl ?_)
  refine wl_op U rfl rfl (op_alloc U z_24 rfl ?_)
  refine wz U ?_
  repeat (first|refine nt ?_|refine nq ?_|refine wq U ?_)
  refine wg U ?_
  refine wr U (rd_load2 U el_24 rfl (v0 := (.int .i64 ((n : Nat) : Int))) (v1 := (.slice p E.length cap))  (by rw [rhn U (b := N) (c := (N + 1)) (by omega), rhq U (by omega)]; rfl) (by rw [rhn U (b := N) (c := (N + 1)) (by omega), rhq U (by omega)]; rfl)) rfl rfl ?_
  refine wl_op U rfl rfl (op_call U Tryz.f32 rfl rfl pf_32 (by kernel_rfl) (by kernel_rfl) ((s32 U n E _ hg _ _ (hv.sub U (((Sub.refl _).hset (fresh hlt (by omega))).hset (fresh hlt (by omega))))).mono U ?_))
  rintro _ R N1 ⟨rfl, hs1, hN1⟩
  have hx_1 := hs1 N _ (by first|(rw [hsn (b := N) (c := (N + 1)) (by omega), hsy]; done) | (rw [hsn (b := N) (c := (N + 1)) (by omega), hsy]; rfl))
  have hx_2 := hs1 (N + 1) _ (by first|(rw [hsy]; done) | (rw [hsy]; rfl))
  have hs_3 := (((Sub.refl _).hset (fresh hlt (by omega))).hset (fresh hlt (by omega))).trans hs1
  refine wl_own U fun hBNR hltR => ?_
  refine wr U (rd_neq U rfl rfl) rfl rfl ?_
  refine wz U ?_
  have hsR := hs_3
  repeat (first|refine nt ?_|refine nq ?_|refine wq U ?_)
  refine wcd U (t := false) rfl (fun h => nomatch h) fun _ => ?_
  refine wsk U ?_
  repeat (first|refine nt ?_|refine nq ?_|refine wq U ?_)
  refine wg U ?_
  refine wr U ((rfa U fb_24_0 rfl).to (v' := (.pointer (some ⟨N, 0, none⟩))) rfl) rfl rfl ?_
  refine wr U (rl1 U el_3 rfl (v := (.int .i64 ((n : Nat) : Int))) (by rw [rrw U (by omega) hx_1]; rfl)) rfl rfl ?_
  refine wr U (rd_build U (cells := #[(.int .i64 ((n : Nat) : Int)), (.slice none 0 0)]) (by unfold P; kernel_rfl)) rfl rfl ?_
  refine wl_op U rfl rfl (op_alloc U z_24 rfl ?_)
  refine wl_op0 U rfl (op_store U (vs := [(.int .i64 ((n : Nat) : Int)), (.slice none 0 0)]) (cs := [(.int .i64 0), (.slice none 0 0)]) el_24 rfl rfl rfl rfl (one2 rfl rfl) (by first|(rw [hsy]; done) | (rw [hsy]; rfl)) (by omega) (by simp) ?_)
  refine wz U ?_
  refine wc_gen U (fun H2 => H2 N1 = some (.row 24 0 [(.int .i64 ((n : Nat) : Int)), (.slice none 0 0)] 2) ∧ Sub R H2) ⟨(by first|(rw [hsy]; done) | (rw [hsy]; rfl)), ((Sub.refl R).hset (fresh hltR (by omega))).hset (fresh hltR (by omega))⟩ ?_
  rintro H2 ⟨hg2, hs2⟩ hBN2 hlt2
  repeat (first|refine nt ?_|refine nq ?_|refine wq U ?_)
  refine wg U ?_
  refine wr U ((rfa U fb_24_1 rfl).to (v' := (.pointer (some ⟨N, 1, none⟩))) rfl) rfl rfl ?_
  refine wr U (rl1 U el_22 rfl (v := (.slice p E.length cap)) (by rw [rrw U (by omega) (hs2 _ _ hx_1)]; rfl)) rfl rfl ?_
  refine wr U ((rd_len' U sl_22 rfl).to (v' := (.int .i64 ((E.length : Nat) : Int))) rfl) rfl rfl ?_
  refine wr U ((rm U).to (v' := (.int .i64 0)) rfl) rfl rfl ?_
  refine wz U ?_
  repeat (first|refine nt ?_|refine nq ?_|refine wq U ?_)
  refine wc_block U ?_
  refine wc_loop U (fun m T H' N' => ∃ (k : Nat) (ov : Value), k ≤ E.length ∧ m = E.length - k ∧ Has T [(1, (.func (.func 57) #[] #[(.pointer (some ⟨fb, 0, none⟩))])), (4, (.pointer (some ⟨(N + 1), 0, none⟩))), (5, (.pointer (some ⟨N1, 0, none⟩))), (16, (.slice p E.length cap)), (17, (.int .i64 ((E.length : Nat) : Int))), (18, (.int .i64 ((k : Nat) : Int)))] ∧ Sub R H' ∧ H' N1 = some (.row 24 0 [.int .i64 ((n : Nat) : Int), ov] 2) ∧ IsSl H' ov 43 3 (necs (onlyE (E.take k) keep)) ∧ (∀ c, blkOf ov = some c → N1 < c) ∧ N1 < N') E.length ⟨0, .slice none 0 0, Nat.zero_le _, rfl, ⟨rfl, rfl, rfl, rfl, rfl, rfl, trivial⟩, hs2, hg2, .inl ⟨rfl, rfl⟩, (fun c hc => by cases hc), by omega⟩ ?_
  rintro m T H3 N3 ⟨k, ov, hk1, rfl, hT, hs3, hg3, ho3, hob, hN3⟩
  obtain ⟨J, rfl⟩ := hT.ex
  refine wc_own U fun hBN3 hlt3 => ?_
  repeat (first|refine nt ?_|refine nq ?_|refine wq U ?_)
  refine wg U ?_
  refine wr U (rd_lss U rfl rfl) rfl rfl ?_
  refine wz U ?_
  repeat (first|refine nt ?_|refine nq ?_|refine wq U ?_)
  refine wcd U (t := (decide (((k : Nat) : Int) < ((E.length : Nat) : Int)))) rfl (fun hck => ?_) fun hck => ?_
  · replace hck := of_decide_eq_true hck
    refine wsk U ?_
    repeat (first|refine nt ?_|refine nq ?_)
    have hk2 : k < E.length := by omega
    obtain ⟨be, offe, rfl⟩ := hp (by omega)
    have hv1 := (hv.sub U hsR).sub U hs3
    have he := hg.at hk2
    repeat (first|refine nt ?_|refine nq ?_|refine wq U ?_)
    refine wc_block U ?_
    repeat (first|refine nt ?_|refine nq ?_|refine wq U ?_)
    refine wg U ?_
    refine wr U ((rm U).to (v' := (.int .i64 ((k : Nat) : Int))) rfl) rfl rfl ?_
    refine wr U (rd_idxN U (j := k) sl_22 rfl rfl (by omega)) rfl rfl ?_
    refine wr U (rd_load3 U el_43 rfl (v0 := (.int .i64 ((E[k].1 : Nat) : Int))) (v1 := (.int .i64 ((E[k].2.1 : Nat) : Int))) (v2 := (.int .i64 (E[k].2.2)))  (RdS.e0 U hv1 hk2) (RdS.e1 U hv1 hk2) (RdS.e2 U hv1 hk2)) rfl rfl ?_
    refine wl_op U rfl rfl (op_alloc U z_43 rfl ?_)
    refine wr U ((ra U).to (v' := (.int .i64 ((k : Nat) : Int))) rfl) rfl rfl ?_
    refine wl_op0 U rfl (op_store U (vs := [(.int .i64 ((E[k].1 : Nat) : Int)), (.int .i64 ((E[k].2.1 : Nat) : Int)), (.int .i64 (E[k].2.2))]) (cs := [(.int .i64 0), (.int .i64 0), (.int .i64 0)]) el_43 rfl rfl rfl rfl (one3 rfl rfl rfl) (by first|(rw [hsy]; done) | (rw [hsy]; rfl)) (by omega) (by simp) ?_)
    refine wz U ?_
    repeat (first|refine nt ?_|refine nq ?_|refine wq U ?_)
    refine wg U ?_
    refine wr U ((rm U).to (v' := (.func (.func 57) #[] #[(.pointer (some ⟨fb, 0, none⟩))])) rfl) rfl rfl ?_
    refine wr U ((rm U).to (v' := (.int .i64 ((k : Nat) : Int))) rfl) rfl rfl ?_
    refine wr U (rd_load3 U el_43 rfl (v0 := (.int .i64 ((E[k].1 : Nat) : Int))) (v1 := (.int .i64 ((E[k].2.1 : Nat) : Int))) (v2 := (.int .i64 (E[k].2.2)))  (by rw [rhq U (by omega)]; rfl) (by rw [rhq U (by omega)]; rfl) (by rw [rhq U (by omega)]; rfl)) rfl rfl ?_
    refine wl_op U rfl rfl (op_call U Tryz.f57 rfl rfl pf_57 (by kernel_rfl) (by kernel_rfl) ((s57 U k E[k] fb kb kv keep _ _ ((((Sub.refl _).hset (fresh hlt3 (by omega))).hset (fresh hlt3 (by omega))) _ _ (hs3 _ _ (hsR _ _ hf))) ((((Sub.refl _).hset (fresh hlt3 (by omega))).hset (fresh hlt3 (by omega))) _ _ (hs3 _ _ (hsR _ _ hb))) (((hk.sub U hsR).sub U hs3).sub U (((Sub.refl _).hset (fresh hlt3 (by omega))).hset (fresh hlt3 (by omega))))).mono U ?_))
    rintro _ H4 N4 ⟨rfl, hs4, hN4⟩
    have hx_4 := hs4 N1 _ (by rw [hsn (b := N1) (c := N3) (by omega), hsn (b := N1) (c := N3) (by omega)]; exact hg3)
    have hx_5 := hs4 N3 _ (by first|(rw [hsy]; done) | (rw [hsy]; rfl))
    have hs_6 := (((Sub.refl _).hset (fresh hlt3 (by omega))).hset (fresh hlt3 (by omega))).trans hs4
    refine wl_own U fun hBN4 hlt4 => ?_
    refine wz U ?_
    have ho4 := ho3.sub hs_6
    have hol := fun c hc => ho3.lt hlt3 (c := c) hc
    have hln := onlyE_len E keep k
    repeat (first|refine nt ?_|refine nq ?_|refine wq U ?_)
    refine wcd U (t := (eOf keep E[k])) rfl (fun hbt => ?_) fun hbt => ?_
    · skip
      repeat (first|refine nt ?_|refine nq ?_|refine wq U ?_)
      refine wg U ?_
      refine wr U ((rfa U fb_24_1 rfl).to (v' := (.pointer (some ⟨N1, 1, none⟩))) rfl) rfl rfl ?_
      refine wr U (rl1 U el_22 rfl (v := ov) (by rw [rrw U (by omega) hx_4]; rfl)) rfl rfl ?_
      refine wr U (rd_load3 U el_43 rfl (v0 := (.int .i64 ((E[k].1 : Nat) : Int))) (v1 := (.int .i64 ((E[k].2.1 : Nat) : Int))) (v2 := (.int .i64 (E[k].2.2)))  (by rw [rrw U (by omega) hx_5]; rfl) (by rw [rrw U (by omega) hx_5]; rfl) (by rw [rrw U (by omega) hx_5]; rfl)) rfl rfl ?_
      refine wl_op U rfl rfl (op_bs U sl_22 rfl (by decide) (by decide) [(.agg #[(.int .i64 ((E[k].1 : Nat) : Int)), (.int .i64 ((E[k].2.1 : Nat) : Int)), (.int .i64 (E[k].2.2))])] rfl (by simp [Value.cells]) rfl (cs := [(.int .i64 ((E[k].1 : Nat) : Int)), (.int .i64 ((E[k].2.1 : Nat) : Int)), (.int .i64 (E[k].2.2))]) rfl ?_)
      refine wl_op U rfl rfl (op_append1 U (H0 := _) (cs := necs (onlyE (E.take k) keep)) (ys := [(.int .i64 ((E[k].1 : Nat) : Int)), (.int .i64 ((E[k].2.1 : Nat) : Int)), (.int .i64 (E[k].2.2))]) sl_22 rfl (by decide) rfl ho4 (fun hc => by have := hol _ hc; omega) rfl rfl rfl (by omega) (one3 rfl rfl rfl) (by rw [necs_length]; omega) (by rw [necs_length]; omega) ?_)
      intro wA HA NA hNA hslA hfrA hloA
      have hA : ∀ c, c < N4 → blkOf ov ≠ some c → HA c = H4 c := fun c hc hne => (hfrA c (by omega) hne).trans (hsn (by omega))
      have hgA : HA N1 = some (.row 24 0 [.int .i64 ((n : Nat) : Int), ov] 2) := (hA N1 (by omega) (fun h => by have := hob _ h; omega)).trans hx_4
      refine wr U ((rfa U fb_24_1 rfl).to (v' := (.pointer (some ⟨N1, 1, none⟩))) rfl) rfl rfl ?_
      have hon := oneS hslA
      refine wl_op0 U rfl (op_store1 U el_22 rfl rfl hon.1 hon.2 hgA (by omega) (by simp) ?_)
      refine wz U ?_
      repeat (first|refine nt ?_|refine nq ?_)
      repeat (first|refine nt ?_|refine nq ?_|refine wq U ?_)
      refine wg U ?_
      refine wr U (rd_add U rfl rfl (by omega) (by omega)) rfl rfl ?_
      refine wr U ((rm U).to (v' := (.int .i64 (((k : Nat) : Int) + 1))) rfl) rfl rfl ?_
      refine wz U ?_
      repeat (first|refine nt ?_|refine nq ?_)
      refine ⟨E.length - (k + 1), by omega, k + 1, wA, by omega, rfl, ⟨rfl, rfl, rfl, rfl, rfl, rfl, trivial⟩, ?_, hsy, ?_, ?_, by omega⟩
      · intro c o hc; have := hltR c o hc; rw [hsn (by omega), hA c (by omega) (fun h => by have := hob _ h; omega)]; exact hs_6 c o (hs3 c o hc)
      · rw [onlyE_succ E keep hk2, hbt, if_pos rfl, necs_append]; exact hslA.at fun c hc => hsn (by obtain ⟨c2, h1, h2, h3⟩ := hloA; rw [h1] at hc; cases hc; rcases h3 with h3 | h3; have := hob _ h3; omega; omega)
      · intro c hc; obtain ⟨c2, h1, h2, h3⟩ := hloA; rw [h1] at hc; cases hc; rcases h3 with h3 | h3
        · exact hob _ h3
        · omega
    · skip
      refine wsk U ?_
      repeat (first|refine nt ?_|refine nq ?_)
      repeat (first|refine nt ?_|refine nq ?_|refine wq U ?_)
      refine wg U ?_
      refine wr U (rd_add U rfl rfl (by omega) (by omega)) rfl rfl ?_
      refine wr U ((rm U).to (v' := (.int .i64 (((k : Nat) : Int) + 1))) rfl) rfl rfl ?_
      refine wz U ?_
      repeat (first|refine nt ?_|refine nq ?_)
      refine ⟨E.length - (k + 1), by omega, k + 1, ov, by omega, rfl, ⟨rfl, rfl, rfl, rfl, rfl, rfl, trivial⟩, hs3.trans hs_6, hx_4, ?_, hob, by omega⟩
      rw [onlyE_succ E keep hk2, hbt, if_neg (by decide), List.append_nil]; exact ho4
  · replace hck := of_decide_eq_false hck
    refine wc_exit U ?_
    repeat (first|refine xt ?_|refine xps (by decide) ?_)
    refine xbl ?_
    repeat (first|refine nt ?_|refine nq ?_)
    have hkE : k = E.length := by omega
    rw [hkE, List.take_length] at ho3
    repeat (first|refine nt ?_|refine nq ?_|refine wq U ?_)
    refine wg U ?_
    refine wr U (rd_load2 U el_24 rfl (v0 := (.int .i64 ((n : Nat) : Int))) (v1 := ov)  (by rw [rrw U (by omega) hg3]; rfl) (by rw [rrw U (by omega) hg3]; rfl)) rfl rfl ?_
    refine wl_op0 U rfl (op_store U (vs := [(.int .i64 ((n : Nat) : Int)), ov]) (cs := [(.int .i64 0), (.slice none 0 0)]) el_24 rfl rfl rfl rfl (one2 rfl (oneS ho3).2) (hs3 _ _ hx_2) (by omega) (by simp) ?_)
    refine wl_own U fun hBN5 hlt5 => ?_
    refine wz U ?_
    repeat (first|refine nt ?_|refine nq ?_)
    refine wc_ret U ?_
    repeat (first|refine ret1 ?_|refine ret2 ?_)
    exact endCell U (v0 := .int .i64 ((n : Nat) : Int)) (v1 := ov) (.inl rfl) rfl el_24 rfl (by rw [rhq U (by omega)]; rfl) (by rw [rhq U (by omega)]; rfl) ⟨ov, rfl, (ho3.at fun c hc => hsn (by have := hob c hc; omega)).rds U (fun b o e => (hlt5 b o e).1), (fun c hc => by have := hob c hc; omega), (hsR.trans hs3).hset (fresh hlt (by omega)), by omega⟩
theorem s37 (n : Nat) (E : List NE) (sv : Value) (kv : Value) (keep : List Bool) (hg : GOk n E) (H : Hp) (N : Nat) (hv : RdS U H sv 3 (necs E)) (hk : RdS U H kv 1 (bools keep)) : Spec U 37 #[(.agg #[(.int .i64 ((n : Nat) : Int)), sv]), kv] H N (fun v H' N' => ∃ ov, v = .agg #[.int .i64 ((n : Nat) : Int), ov] ∧ RdS U H' ov 3 (necs (onlyE E keep)) ∧ (∀ c, blkOf ov = some c → N ≤ c) ∧ Sub H H' ∧ N ≤ N') := by
  have hsc : sv.cells.toList = [sv] := by obtain ⟨p, k, cap, rfl, _⟩ := hv; rfl
  have hkc : kv.cells.toList = [kv] ∧ kv.oneCell' = true := by obtain ⟨p, k, cap, rfl, _⟩ := hk; exact ⟨rfl, rfl⟩
  refine spa U pf_37 (m := 10) rfl rfl (by simp) fun hBN hlt => ?_
  obtain ⟨J, hJ⟩ := Has.ex (T := argsT #[(.agg #[(.int .i64 ((n : Nat) : Int)), sv]), kv]) (l := [(0, (.agg #[(.int .i64 ((n : Nat) : Int)), sv])), (1, kv)]) ⟨rfl, rfl, trivial⟩
  rw [hJ]; clear hJ
  repeat (first|refine nt ?_|refine nq ?_|refine wq U ?_)
  refine wg U ?_
  refine wl_op U rfl rfl (op_box U rfl rfl ?_)
  refine wl_op U rfl rfl (op_box U rfl hkc.1 ?_)
  refine wl_op U rfl rfl (op_alloc U z_24 rfl ?_)
  refine wz U ?_
  repeat (first|refine nt ?_|refine nq ?_)
  repeat (first|refine nt ?_|refine nq ?_|refine wq U ?_)
  refine wg U ?_
  refine wr U ((rd_makeFunc U).to (v' := (.func (.func 55) #[] #[(.pointer (some ⟨(N + 1), 0, none⟩))])) rfl) rfl rfl ?_
  refine wl_op U rfl rfl (op_alloc U z_63 rfl ?_)
  refine wl_op0 U rfl (op_store U (vs := [(.func (.func 55) #[] #[(.pointer (some ⟨(N + 1), 0, none⟩))])]) (cs := [.nilFunc]) el_63 rfl rfl rfl rfl (one1 rfl) (by first|(rw [hsy]; done) | (rw [hsy]; rfl)) (by omega) (by simp) ?_)
  refine wz U ?_
  refine wc_gen U (fun R => R N = some (.row 24 0 [(.int .i64 ((n : Nat) : Int)), sv] 2) ∧ R (N + 1) = some (.row 67 0 [kv] 1) ∧ R (N + 2) = some (.row 24 0 [(.int .i64 0), (.slice none 0 0)] 2) ∧ R (N + 3) = some (.row 63 0 [(.func (.func 55) #[] #[(.pointer (some ⟨(N + 1), 0, none⟩))])] 1) ∧ Sub _ R) ⟨(by first|(rw [hsn (b := N) (c := (N + 3)) (by omega), hsn (b := N) (c := (N + 3)) (by omega), hsn (b := N) (c := (N + 2)) (by omega), hsn (b := N) (c := (N + 1)) (by omega), hsy]; done) | (rw [hsn (b := N) (c := (N + 3)) (by omega), hsn (b := N) (c := (N + 3)) (by omega), hsn (b := N) (c := (N + 2)) (by omega), hsn (b := N) (c := (N + 1)) (by omega), hsy]; rfl)), (by first|(rw [hsn (b := (N + 1)) (c := (N + 3)) (by omega), hsn (b := (N + 1)) (c := (N + 3)) (by omega), hsn (b := (N + 1)) (c := (N + 2)) (by omega), hsy]; done) | (rw [hsn (b := (N + 1)) (c := (N + 3)) (by omega), hsn (b := (N + 1)) (c := (N + 3)) (by omega), hsn (b := (N + 1)) (c := (N + 2)) (by omega), hsy]; rfl)), (by first|(rw [hsn (b := (N + 2)) (c := (N + 3)) (by omega), hsn (b := (N + 2)) (c := (N + 3)) (by omega), hsy]; done) | (rw [hsn (b := (N + 2)) (c := (N + 3)) (by omega), hsn (b := (N + 2)) (c := (N + 3)) (by omega), hsy]; rfl)), (by first|(rw [hsy]; done) | (rw [hsy]; rfl)), ((((((Sub.refl _).hset (fresh hlt (by omega))).hset (fresh hlt (by omega))).hset (fresh hlt (by omega))).hset (fresh hlt (by omega))).hset (fresh hlt (by omega)))⟩ ?_
  rintro R ⟨hx_7, hx_8, hx_9, hx_10, hsR⟩ hBNR hltR
  repeat (first|refine nt ?_|refine nq ?_|refine wq U ?_)
  refine wg U ?_
  refine wr U (rd_load2 U el_24 rfl (v0 := (.int .i64 ((n : Nat) : Int))) (v1 := sv)  (by rw [rrw U (by omega) hx_7]; rfl) (by rw [rrw U (by omega) hx_7]; rfl)) rfl rfl ?_
  refine wr U ((rd_makeFunc U).to (v' := (.func (.func 57) #[] #[(.pointer (some ⟨(N + 3), 0, none⟩))])) rfl) rfl rfl ?_
  refine wl_op U rfl rfl (op_call U Tryz.f56 rfl rfl pf_56 (by kernel_rfl) (by kernel_rfl) ((s56 U n E sv (N + 3) (N + 1) kv keep hg R _ (hv.sub U hsR) hx_10 hx_8 (hk.sub U hsR)).mono U ?_))
  rintro _ H2 N2 hq
  obtain ⟨ov, rfl, hov, hob, hs2, hN2⟩ := hq
  have hx_11 := hs2 N _ hx_7
  have hx_12 := hs2 (N + 1) _ hx_8
  have hx_13 := hs2 (N + 2) _ hx_9
  have hx_14 := hs2 (N + 3) _ hx_10
  have hs_15 := (Sub.refl _).trans hs2
  have hon := (show ov.oneCell' = true by obtain ⟨p, k, cap, rfl, _⟩ := hov; rfl)
  refine wl_op0 U rfl (op_store U (vs := [(.int .i64 ((n : Nat) : Int)), ov]) (cs := [(.int .i64 0), (.slice none 0 0)]) el_24 rfl rfl rfl rfl (one2 rfl hon) hx_13 (by omega) (by simp) ?_)
  refine wl_own U fun hBN5 hlt5 => ?_
  refine wz U ?_
  refine wc_ret U ?_
  repeat (first|refine ret1 ?_|refine ret2 ?_)
  exact endCell U (v0 := .int .i64 ((n : Nat) : Int)) (v1 := ov) (.inl rfl) rfl el_24 rfl (by rw [rhq U (by omega)]; rfl) (by rw [rhq U (by omega)]; rfl) ⟨ov, rfl, hov.at U fun c hc => hsn (by have := hob c hc; omega), fun c hc => by have := hob c hc; omega, (hsR.trans hs2).hset (fresh hlt (by omega)), by omega⟩
end Go.Proofs.YtdmodppoellbkaaGreat
namespace Go.Proofs.YtdmodppoellbkaaGreat
open Go Go.RowKit
variable (U : Cx)
theorem op_cut {t e bytes N : Nat} {z0 : Value} {T : Tm} {H : Hp} {dst : Option Tmp} {ty : TypeId} {pos : String} {after : Array Edge} {guard : Option (Nat × Bool)} {x y : Operand} {K : Value → Hp → Nat → Prop} {v : Value} {cs : List Value}
    (hs : SlT t e 1 bytes z0) (hx : ev T x = v) (hv : IsSl H v e 1 cs) (hne : 0 < cs.length) (hi : ev T y = .int .i64 1)
    (hk : ∀ v' H', IsSl H' v' e 1 (cs.drop 1) → blkOf v' = blkOf v → (∀ c, blkOf v ≠ some c → H' c = H c) → K v' H' N) : OpW U ⟨dst, .slice t x (some y) none none, ty, pos, after, guard⟩ T H N K := by
  rcases hv with ⟨_, rfl⟩ | ⟨b, off, k, cap, tot, rfl, hH, hl, hkc, htot⟩
  · simp at hne
  have hk1 : 1 ≤ k := by omega
  refine opw_of_run U fun a w he ho => ?_
  have hr := rd_sliceFrom U (dst := dst) (ty := ty) (pos := pos) (after := after) (guard := guard) (R := H) (l := 1) hs hx hi hk1 a w he ho.hold
  refine ⟨_, w, hset H b (.row e (if cap = 1 then off else off + 1 * 1) (cs.drop 1) tot), N, hr, ?_, ?_⟩
  · refine ho.turn U (w' := w) hH ?_ rfl rfl rfl rfl rfl (fun _ _ => rfl) (Nat.le_refl _)
    obtain ⟨c, h1, h2, h3, h4⟩ := (ho.blk b _ hH).2
    refine ⟨c, h1, h2, ?_, ?_⟩
    · rw [List.length_drop]; split <;> omega
    · intro i hi'
      rw [List.length_drop] at hi'
      have hc1 : ¬ cap = 1 := by omega
      rw [if_neg hc1, List.getElem?_drop, show off + 1 * 1 + i = off + (1 + i) by omega]
      exact h4 (1 + i) (by omega)
  · refine hk _ _ (.inr ⟨b, _, k - 1, cap - 1, tot, rfl, hsy, by rw [List.length_drop]; omega, by omega, ?_⟩) rfl (fun c hc => hsn (by rintro rfl; exact hc rfl))
    split <;> omega
/-! ### The machine -/
/-- what is met, how far each is, who waits -/
structure BS where
  met : List Bool
  out : List Nat
  line : List Nat
def visit (v : Nat) (s : BS) (u : Nat) : BS := if s.met.getD u true then s else ⟨s.met.set u true, s.out.set u (s.out.getD v 0 + 1), s.line ++ [u]⟩
def around (near : List (List Nat)) (v : Nat) (s : BS) : BS := (near.getD v []).foldl (visit v) s
def bfs (near : List (List Nat)) : Nat → BS → BS
  | 0, s => s
  | f + 1, s => match s.line with
    | [] => s
    | v :: _ => bfs near f (let r := around near v s; ⟨r.met, r.out, r.line.drop 1⟩)
def first (near : List (List Nat)) (n : Nat) (s : List Bool × List Nat) (k : Nat) : List Bool × List Nat :=
  if s.1.getD k true then s else let r := bfs near n ⟨s.1.set k true, s.2, [k]⟩; (r.met, r.out)
def levAcc (n : Nat) (E : List NE) (k : Nat) : List Bool × List Nat := (List.range k).foldl (first (nearL n E) n) (List.replicate n false, List.replicate n 0)
def levL (n : Nat) (E : List NE) : List Nat := (levAcc n E n).2
theorem levAcc_succ (n : Nat) (E : List NE) (k : Nat) : levAcc n E (k + 1) = first (nearL n E) n (levAcc n E k) k := by
  rw [levAcc, List.range_succ, List.foldl_append]; rfl
/-- how many are not met -/
def unmet (m : List Bool) : Nat := m.count false
theorem unmet_set {m : List Bool} {u : Nat} (h : m[u]? = some false) : unmet (m.set u true) + 1 = unmet m := by
  induction m generalizing u with
  | nil => simp at h
  | cons b m ih =>
    cases u with
    | zero => simp at h; subst h; simp [unmet]
    | succ u =>
      simp at h
      have := ih h
      simp only [List.set_cons_succ, unmet, List.count_cons] at this ⊢
      omega
structure Lev (n : Nat) (m : List Bool) (o : List Nat) : Prop where
  lm : m.length = n
  lo : o.length = n
  b : ∀ (i x : Nat), o[i]? = some x → x + unmet m ≤ n
theorem Lev.start (n : Nat) : Lev n (List.replicate n false) (List.replicate n 0) :=
  ⟨by simp, by simp, fun i x h => by
    have := List.mem_of_getElem? h
    rw [List.mem_replicate] at this
    simp [unmet, this.2]⟩
theorem Lev.met {n : Nat} {m : List Bool} {o : List Nat} (h : Lev n m o) {u : Nat} (hu : m[u]? = some false) : Lev n (m.set u true) o :=
  ⟨by simp [h.lm], h.lo, fun i x hx => by have := h.b i x hx; have := unmet_set hu; omega⟩
theorem Lev.visit {n : Nat} {m : List Bool} {o : List Nat} (h : Lev n m o) {u v : Nat} (hu : m[u]? = some false) {x : Nat} (hv : o[v]? = some x) : Lev n (m.set u true) (o.set u (x + 1)) :=
  ⟨by simp [h.lm], by simp [h.lo], fun i y hy => by
    have h1 := unmet_set hu
    rw [List.getElem?_set] at hy
    split at hy
    · split at hy
      · cases hy; have := h.b v x hv; omega
      · cases hy
    · have := h.b i y hy; omega⟩
theorem visit_yes {v u : Nat} {s : BS} (h : s.met[u]? = some true) : visit v s u = s := by
  unfold YtdmodppoellbkaaGreat.visit; rw [List.getD_eq_getElem?_getD, h]; simp
theorem visit_no {v u x : Nat} {s : BS} (h : s.met[u]? = some false) (hx : s.out[v]? = some x) : visit v s u = ⟨s.met.set u true, s.out.set u (x + 1), s.line ++ [u]⟩ := by
  unfold YtdmodppoellbkaaGreat.visit; rw [List.getD_eq_getElem?_getD, h, List.getD_eq_getElem?_getD, hx]; simp
theorem bfs_nil (near : List (List Nat)) (f : Nat) {s : BS} (h : s.line = []) : bfs near f s = s := by
  cases f with
  | zero => rfl
  | succ f => unfold bfs; rw [h]
theorem bfs_cons (near : List (List Nat)) (f : Nat) {s : BS} {v : Nat} {l : List Nat} (h : s.line = v :: l) : bfs near (f + 1) s = bfs near f ⟨(around near v s).met, (around near v s).out, (around near v s).line.drop 1⟩ := by
  rw [bfs, h]
theorem first_yes {near : List (List Nat)} {n k : Nat} {s : List Bool × List Nat} (h : s.1[k]? = some true) : first near n s k = s := by
  unfold first; rw [List.getD_eq_getElem?_getD, h]; simp
theorem first_no {near : List (List Nat)} {n k : Nat} {s : List Bool × List Nat} (h : s.1[k]? = some false) : first near n s k = ((bfs near n ⟨s.1.set k true, s.2, [k]⟩).met, (bfs near n ⟨s.1.set k true, s.2, [k]⟩).out) := by
  unfold first; rw [List.getD_eq_getElem?_getD, h]; simp
theorem nats_set (l : List Nat) (k x : Nat) : (nats l).set (0 + k - 0) (.int .i64 ((x : Nat) : Int)) = nats (l.set k x) := by rw [Nat.zero_add, Nat.sub_zero]; simp [nats, List.map_set]
theorem nats_get? {l : List Nat} {k x : Nat} (h : l[k]? = some x) : (nats l)[k]? = some (.int .i64 ((x : Nat) : Int)) := by simp [nats, h]
theorem nats_drop (l : List Nat) (k : Nat) : (nats l).drop k = nats (l.drop k) := by simp [nats]
theorem nats_rep (n : Nat) : List.replicate n (Value.int .i64 0) = nats (List.replicate n 0) := by simp [nats]
theorem nearL_lt {n : Nat} {E : List NE} (hg : GOk n E) {v u : Nat} (h : u ∈ (nearL n E).getD v []) : u < n := (hg.adj_lt ((nearL_mem hg v u).1 h)).2.1
end Go.Proofs.YtdmodppoellbkaaGreat
namespace Go.Proofs.YtdmodppoellbkaaGreat
open Go Go.RowKit
variable (U : Cx)
theorem s53 (n : Nat) (E : List NE) (sv : Value) (hg : GOk n E) (H : Hp) (N : Nat) (hv : RdS U H sv 3 (necs E)) : Spec U 53 #[(.agg #[(.int .i64 ((n : Nat) : Int)), sv])] H N (fun v H' N' => ∃ lv, v = .tuple #[lv, .int .i64 0] ∧ RdS U H' lv 1 (nats (levL n E)) ∧ Sub H H' ∧ N ≤ N') := by
  obtain ⟨p, cap, rfl, hc, hp⟩ := hv.edges U
  refine spa U pf_53 (m := 77) rfl rfl (by simp) fun hBN hlt => ?_
  obtain ⟨J, hJ⟩ := Has.ex (T := argsT #[(.agg #[(.int .i64 ((n : Nat) : Int)), (.slice p E.length cap)])]) (l := [(0, (.agg #[(.int .i64 ((n : Nat) : Int)), (.slice p E.length cap)]))]) ⟨rfl, trivial⟩
  rw [hJ]; clear hJ
  have hn64 := hg.hn; have hm := hg.hm
  repeat (first|refine nt ?_|refine nq ?_|refine wq U ?_)
  refine wg U ?_
  refine wl_op U rfl rfl (op_box U rfl rfl ?_)
  refine wr U ((ra U).to (v' := (.slice none 0 0)) rfl) rfl rfl ?_
  refine wr U ((ra U).to (v' := (.int .i64 0)) rfl) rfl rfl ?_
  refine wz U ?_
  repeat (first|refine nt ?_|refine nq ?_|refine wq U ?_)
  refine wg U ?_
  refine wr U (rd_load2 U el_24 rfl (v0 := (.int .i64 ((n : Nat) : Int))) (v1 := (.slice p E.length cap))  (by rw [rhq U (by omega)]; rfl) (by rw [rhq U (by omega)]; rfl)) rfl rfl ?_
  refine wl_op U rfl rfl (op_call U Tryz.f32 rfl rfl pf_32 (by kernel_rfl) (by kernel_rfl) ((s32 U n E _ hg _ _ (hv.sub U ((Sub.refl _).hset (fresh hlt (by omega))))).mono U ?_))
  rintro _ R0 N0 ⟨rfl, hs1, hN0⟩
  have hx_1 := hs1 N _ (by first|(rw [hsy]; done) | (rw [hsy]; rfl))
  have hs_2 := ((Sub.refl _).hset (fresh hlt (by omega))).trans hs1
  refine wl_own U fun hBN0 hltR0 => ?_
  refine wr U (rd_neq U rfl rfl) rfl rfl ?_
  refine wz U ?_
  repeat (first|refine nt ?_|refine nq ?_|refine wq U ?_)
  refine wcd U (t := false) rfl (fun h => nomatch h) fun _ => ?_
  refine wsk U ?_
  repeat (first|refine nt ?_|refine nq ?_|refine wq U ?_)
  refine wg U ?_
  refine wr U (rd_load2 U el_24 rfl (v0 := (.int .i64 ((n : Nat) : Int))) (v1 := (.slice p E.length cap))  (by rw [rrw U (by omega) hx_1]; rfl) (by rw [rrw U (by omega) hx_1]; rfl)) rfl rfl ?_
  refine wl_op U rfl rfl (op_call U Tryz.f61 rfl rfl pf_61 (by kernel_rfl) (by kernel_rfl) ((s61 U n E _ hg _ _ (hv.sub U hs_2)).mono U ?_))
  rintro av R N1 ⟨hA, hs2, hN1⟩
  have hx_3 := hs2 N _ hx_1
  have hs_4 := hs_2.trans hs2
  refine wl_own U fun hBN1 hltR => ?_
  obtain ⟨vsA, hAr, hAl, hAe⟩ := hA
  obtain ⟨pA, capA, rfl, hcA, hpA⟩ := hAr.cells1 U
  have hAn : vsA.length = n := by rw [hAl]; exact nearL_length n E
  refine wr U ((ra U).to (v' := (.slice pA vsA.length capA)) rfl) rfl rfl ?_
  refine wz U ?_
  have hsR := hs_4
  repeat (first|refine nt ?_|refine nq ?_|refine wq U ?_)
  refine wg U ?_
  refine wr U ((rfa U fb_24_0 rfl).to (v' := (.pointer (some ⟨N, 0, none⟩))) rfl) rfl rfl ?_
  refine wr U (rl1 U el_3 rfl (v := (.int .i64 ((n : Nat) : Int))) (by rw [rrw U (by omega) hx_3]; rfl)) rfl rfl ?_
  refine wl_op U rfl rfl (op_makeSlice U (m := n) (v := .int .i64 0) sl_26 rfl rfl rfl (by omega) (by omega) ?_)
  refine wr U ((ra U).to (v' := (.slice (some ⟨N1, 0, none⟩) n n)) rfl) rfl rfl ?_
  refine wz U ?_
  repeat (first|refine nt ?_|refine nq ?_|refine wq U ?_)
  refine wg U ?_
  refine wr U ((rfa U fb_24_0 rfl).to (v' := (.pointer (some ⟨N, 0, none⟩))) rfl) rfl rfl ?_
  refine wr U (rl1 U el_3 rfl (v := (.int .i64 ((n : Nat) : Int))) (by rw [rhn U (b := N) (c := N1) (by omega), rrw U (by omega) hx_3]; rfl)) rfl rfl ?_
  refine wl_op U rfl rfl (op_makeSlice U (m := n) (v := .bool false) sl_67 rfl rfl rfl (by omega) (by omega) ?_)
  refine wr U ((ra U).to (v' := (.slice (some ⟨(N1 + 1), 0, none⟩) n n)) rfl) rfl rfl ?_
  refine wz U ?_
  refine wc_gen U (fun H2 => H2 (N1 + 1) = some (.row 4 0 (bools (List.replicate n false)) n) ∧ H2 N1 = some (.row 3 0 (nats (List.replicate n 0)) n) ∧ Sub R H2) ⟨by rw [← bools_rep]; exact hsy, by rw [← nats_rep]; exact (hsn (by omega)).trans hsy, ((Sub.refl R).hset (fresh hltR (by omega))).hset (fresh hltR (by omega))⟩ ?_
  rintro H2 ⟨hm2, ho2, hs2R⟩ hBN2 hlt2
  repeat (first|refine nt ?_|refine nq ?_|refine wq U ?_)
  refine wg U ?_
  refine wr U ((rfa U fb_24_0 rfl).to (v' := (.pointer (some ⟨N, 0, none⟩))) rfl) rfl rfl ?_
  refine wr U (rl1 U el_3 rfl (v := (.int .i64 ((n : Nat) : Int))) (by rw [rrw U (by omega) (hs2R _ _ hx_3)]; rfl)) rfl rfl ?_
  refine wr U ((rm U).to (v' := (.int .i64 0)) rfl) rfl rfl ?_
  refine wz U ?_
  repeat (first|refine nt ?_|refine nq ?_|refine wq U ?_)
  refine wc_block U ?_
  refine wc_loop U (fun m T H' N' => ∃ (k : Nat) (met : List Bool) (out : List Nat), k ≤ n ∧ m = n - k ∧ Has T [(4, (.slice pA vsA.length capA)), (5, (.slice (some ⟨N1, 0, none⟩) n n)), (6, (.slice (some ⟨(N1 + 1), 0, none⟩) n n)), (24, (.int .i64 ((n : Nat) : Int))), (25, (.int .i64 ((k : Nat) : Int)))] ∧ H' (N1 + 1) = some (.row 4 0 (bools met) n) ∧ H' N1 = some (.row 3 0 (nats out) n) ∧ Sub R H' ∧ N1 + 1 < N' ∧ Lev n met out ∧ (met, out) = levAcc n E k) n ⟨0, List.replicate n false, List.replicate n 0, Nat.zero_le _, rfl, ⟨rfl, rfl, rfl, rfl, rfl, trivial⟩, hm2, ho2, hs2R, by omega, Lev.start n, rfl⟩ ?_
  rintro m T H3 N3 ⟨k, met, out, hk, rfl, hT, hm3, ho3, hs3, hN3, hL, hlev⟩
  obtain ⟨J, rfl⟩ := hT.ex
  refine wc_own U fun hBN3 hlt3 => ?_
  repeat (first|refine nt ?_|refine nq ?_|refine wq U ?_)
  refine wg U ?_
  refine wr U (rd_lss U rfl rfl) rfl rfl ?_
  refine wz U ?_
  repeat (first|refine nt ?_|refine nq ?_|refine wq U ?_)
  refine wcd U (t := (decide (((k : Nat) : Int) < ((n : Nat) : Int)))) rfl (fun hck => ?_) fun hck => ?_
  · replace hck := of_decide_eq_true hck
    refine wsk U ?_
    repeat (first|refine nt ?_|refine nq ?_)
    have hk1 : k < n := by omega
    obtain ⟨bk, hbk⟩ := get_ex (l := met) (i := k) (by rw [hL.lm]; exact hk1)
    repeat (first|refine nt ?_|refine nq ?_|refine wq U ?_)
    refine wc_block U ?_
    repeat (first|refine nt ?_|refine nq ?_|refine wq U ?_)
    refine wg U ?_
    refine wr U ((rm U).to (v' := (.int .i64 ((k : Nat) : Int))) rfl) rfl rfl ?_
    refine wr U ((ra U).to (v' := (.int .i64 ((k : Nat) : Int))) rfl) rfl rfl ?_
    refine wz U ?_
    repeat (first|refine nt ?_|refine nq ?_|refine wq U ?_)
    refine wg U ?_
    refine wr U ((rm U).to (v' := (.slice (some ⟨(N1 + 1), 0, none⟩) n n)) rfl) rfl rfl ?_
    refine wr U ((rm U).to (v' := (.int .i64 ((k : Nat) : Int))) rfl) rfl rfl ?_
    refine wr U (rd_idx1 U (j := k) sl_67 rfl rfl (by omega)) rfl rfl ?_
    refine wr U (rl1 U el_4 rfl (v := (.bool bk)) (rd_at U (by omega) hm3 (bools_get hbk))) rfl rfl ?_
    refine wz U ?_
    repeat (first|refine nt ?_|refine nq ?_|refine wq U ?_)
    refine wcd U (t := bk) rfl (fun hbt => ?_) fun hbt => ?_
    · skip
      subst hbt
      refine wc_exit U ?_
      repeat (first|refine xt ?_|refine xps (by decide) ?_)
      refine xbl ?_
      repeat (first|refine nt ?_|refine nq ?_)
      repeat (first|refine nt ?_|refine nq ?_|refine wq U ?_)
      refine wg U ?_
      refine wr U (rd_add U rfl rfl (by omega) (by omega)) rfl rfl ?_
      refine wr U ((rm U).to (v' := (.int .i64 (((k : Nat) : Int) + 1))) rfl) rfl rfl ?_
      refine wz U ?_
      repeat (first|refine nt ?_|refine nq ?_)
      exact ⟨n - (k + 1), by omega, k + 1, met, out, by omega, rfl, ⟨rfl, rfl, rfl, rfl, rfl, trivial⟩, hm3, ho3, hs3, hN3, hL, by rw [levAcc_succ, ← hlev, first_yes hbk]⟩
    · skip
      subst hbt
      refine wsk U ?_
      repeat (first|refine nt ?_|refine nq ?_|refine wq U ?_)
      refine wg U ?_
      refine wr U ((rm U).to (v' := (.slice (some ⟨(N1 + 1), 0, none⟩) n n)) rfl) rfl rfl ?_
      refine wr U ((rm U).to (v' := (.int .i64 ((k : Nat) : Int))) rfl) rfl rfl ?_
      refine wr U (rd_idx1 U (j := k) sl_67 rfl rfl (by omega)) rfl rfl ?_
      refine wl_op0 U rfl (op_store1 U el_4 rfl rfl rfl rfl hm3 (by omega) (by rw [bools_length, hL.lm]; omega) ?_)
      refine wz U ?_
      repeat (first|refine nt ?_|refine nq ?_|refine wq U ?_)
      refine wg U ?_
      refine wr U ((rm U).to (v' := (.int .i64 ((k : Nat) : Int))) rfl) rfl rfl ?_
      refine wl_op U rfl rfl (op_bs U sl_26 rfl (by decide) (by decide) [(.int .i64 ((k : Nat) : Int))] rfl (by simp [Value.cells]) rfl (cs := [(.int .i64 ((k : Nat) : Int))]) rfl ?_)
      refine wr U ((ra U).to (v' := (.slice (some ⟨N3, 0, none⟩) 1 1)) rfl) rfl rfl ?_
      refine wz U ?_
      refine wc_gen U (fun Hs => Hs (N1 + 1) = some (.row 4 0 (bools (met.set k true)) n) ∧ Hs N1 = some (.row 3 0 (nats out) n) ∧ IsSl Hs (.slice (some ⟨N3, 0, none⟩) 1 1) 3 1 (nats [k]) ∧ ∀ c, c < N1 → Hs c = H3 c) ⟨?_, ?_, ?_, ?_⟩ ?_
      · rw [hsn (by omega), hsy]; exact congrArg (fun l => some (Blk.row 4 0 l n)) (bools_set _ _ _)
      · rw [hsn (by omega), hsn (by omega)]; exact ho3
      · exact .inr ⟨N3, 0, 1, 1, 1, rfl, by rw [hsy]; rfl, rfl, by omega, by omega⟩
      · intro c hc; rw [hsn (b := c) (c := N3) (by omega), hsn (b := c) (c := N1 + 1) (by omega)]
      rintro H4 ⟨hm4, ho4, hp4, hfr4⟩ hBN4 hlt4
      have hL4 := hL.met hbk
      have hu4 := unmet_set hbk
      have huc : unmet met ≤ n := by rw [← hL.lm]; exact List.count_le_length
      repeat (first|refine nt ?_|refine nq ?_|refine wq U ?_)
      refine wc_block U ?_
      have hs4 : Sub R H4 := fun c o hc => by have := hltR c o hc; rw [hfr4 c (by omega)]; exact hs3 c o hc
      refine wc_loop U (fun m T H' N' => ∃ (met' : List Bool) (out' : List Nat) (line : List Nat) (pv : Value), Has T [(4, (.slice pA vsA.length capA)), (5, (.slice (some ⟨N1, 0, none⟩) n n)), (6, (.slice (some ⟨(N1 + 1), 0, none⟩) n n)), (24, (.int .i64 ((n : Nat) : Int))), (25, (.int .i64 ((k : Nat) : Int))), (8, pv)] ∧ H' (N1 + 1) = some (.row 4 0 (bools met') n) ∧ H' N1 = some (.row 3 0 (nats out') n) ∧ Sub R H' ∧ N3 < N' ∧ IsSl H' pv 3 1 (nats line) ∧ (∀ c, blkOf pv = some c → N3 ≤ c) ∧ Lev n met' out' ∧ (∀ x ∈ line, x < n) ∧ m ≤ n ∧ unmet met' + line.length ≤ m ∧ bfs (nearL n E) m ⟨met', out', line⟩ = bfs (nearL n E) n ⟨met.set k true, out, [k]⟩) n ⟨met.set k true, out, [k], (.slice (some ⟨N3, 0, none⟩) 1 1), ⟨rfl, rfl, rfl, rfl, rfl, rfl, trivial⟩, hm4, ho4, hs4, by omega, hp4, (fun c hc => by simp only [blkOf, Option.some.injEq] at hc; omega), hL4, by simpa using hk1, Nat.le_refl _, by simp; omega, rfl⟩ ?_
      rintro m T H5 N5 ⟨met5, out5, line, pv, hT, hm5, ho5, hs5, hN5, hp5, hpb5, hL5, hln5, hll5, hfu5, hb5⟩
      obtain ⟨J, rfl⟩ := hT.ex
      refine wc_own U fun hBN5 hlt5 => ?_
      have hpr := hp5.rds U (fun b o e => (hlt5 b o e).1)
      obtain ⟨pp, capp, rfl, hcp, hpp⟩ := hpr.nums U
      repeat (first|refine nt ?_|refine nq ?_|refine wq U ?_)
      refine wg U ?_
      refine wr U ((rm U).to (v' := (.slice pp line.length capp)) rfl) rfl rfl ?_
      refine wr U ((rd_len' U sl_26 rfl).to (v' := (.int .i64 ((line.length : Nat) : Int))) rfl) rfl rfl ?_
      refine wr U (rd_gtr U rfl rfl) rfl rfl ?_
      refine wz U ?_
      repeat (first|refine nt ?_|refine nq ?_|refine wq U ?_)
      refine wcd U (t := (decide (0 < ((line.length : Nat) : Int)))) rfl (fun hcj => ?_) fun hcj => ?_
      · replace hcj := of_decide_eq_true hcj
        refine wsk U ?_
        repeat (first|refine nt ?_|refine nq ?_)
        have hj1 : 0 < line.length := by omega
        obtain ⟨bp, offp, rfl⟩ := hpp (by omega)
        obtain ⟨v, rest, rfl⟩ : ∃ v rest, line = v :: rest := by cases line with | nil => simp at hj1 | cons v rest => exact ⟨v, rest, rfl⟩
        have hpx : v < n := hln5 v (by simp)
        obtain ⟨u, hu⟩ := get_ex (l := vsA) (i := v) (by rw [hAn]; exact hpx)
        obtain ⟨xs, hxs⟩ := get_ex (l := nearL n E) (i := v) (by rw [nearL_length]; exact hpx)
        have hur := (hAe _ _ _ hu hxs).sub U hs5
        obtain ⟨pu, capu, rfl, hcu, hpu⟩ := hur.nums U
        have hxg : (nearL n E).getD v [] = xs := by rw [List.getD_eq_getElem?_getD, hxs]; rfl
        have hxn : ∀ x ∈ xs, x < n := fun x hx => nearL_lt hg (v := v) (by rw [hxg]; exact hx)
        obtain ⟨bA, offA, rfl⟩ := hpA (by omega)
        repeat (first|refine nt ?_|refine nq ?_|refine wq U ?_)
        refine wc_block U ?_
        repeat (first|refine nt ?_|refine nq ?_|refine wq U ?_)
        refine wg U ?_
        refine wr U ((rm U).to (v' := (.slice (some ⟨bp, offp, none⟩) ((v :: rest).length) capp)) rfl) rfl rfl ?_
        refine wr U (rd_idxI1 U 0 sl_26 rfl rfl rfl (by simp)) rfl rfl ?_
        refine wr U (rl1 U el_3 rfl (v := (.int .i64 ((v : Nat) : Int))) (by have := hpr.n0 U (j := 0) (by simp); simpa using this)) rfl rfl ?_
        refine wr U ((ra U).to (v' := (.int .i64 ((v : Nat) : Int))) rfl) rfl rfl ?_
        refine wz U ?_
        repeat (first|refine nt ?_|refine nq ?_|refine wq U ?_)
        refine wg U ?_
        refine wr U ((rm U).to (v' := (.slice (some ⟨bA, offA, none⟩) vsA.length capA)) rfl) rfl rfl ?_
        refine wr U ((rm U).to (v' := (.int .i64 ((v : Nat) : Int))) rfl) rfl rfl ?_
        refine wr U (rd_idx1 U (j := v) sl_25 rfl rfl (by omega)) rfl rfl ?_
        refine wr U (rl1 U el_26 rfl (v := (.slice pu xs.length capu)) ((hAr.sub U hs5).get U hu)) rfl rfl ?_
        refine wr U ((rd_len' U sl_26 rfl).to (v' := (.int .i64 ((xs.length : Nat) : Int))) rfl) rfl rfl ?_
        refine wr U ((rm U).to (v' := (.int .i64 0)) rfl) rfl rfl ?_
        refine wz U ?_
        have hxl : xs.length ≤ 2000 := by have := hxs; rw [nearL, List.getElem?_map] at this; cases h0 : (nearAcc n E)[v]? with | none => rw [h0] at this; cases this | some ys => rw [h0] at this; cases this; rw [sortN_length]; have := nearAcc_len n E ys (List.mem_of_getElem? h0); omega
        repeat (first|refine nt ?_|refine nq ?_|refine wq U ?_)
        refine wc_block U ?_
        refine wc_loop U (fun m' T H' N' => ∃ (i : Nat) (met' : List Bool) (out' : List Nat) (line : List Nat) (pv : Value), i ≤ xs.length ∧ m' = xs.length - i ∧ Has T [(4, (.slice (some ⟨bA, offA, none⟩) vsA.length capA)), (5, (.slice (some ⟨N1, 0, none⟩) n n)), (6, (.slice (some ⟨(N1 + 1), 0, none⟩) n n)), (24, (.int .i64 ((n : Nat) : Int))), (25, (.int .i64 ((k : Nat) : Int))), (8, pv), (9, (.int .i64 ((v : Nat) : Int))), (48, (.slice pu xs.length capu)), (49, (.int .i64 ((xs.length : Nat) : Int))), (50, (.int .i64 ((i : Nat) : Int)))] ∧ H' (N1 + 1) = some (.row 4 0 (bools met') n) ∧ H' N1 = some (.row 3 0 (nats out') n) ∧ Sub R H' ∧ N3 < N' ∧ IsSl H' pv 3 1 (nats line) ∧ (∀ c, blkOf pv = some c → N3 ≤ c) ∧ Lev n met' out' ∧ (∀ x ∈ line, x < n) ∧ unmet met' + line.length = unmet met5 + (v :: rest).length ∧ 0 < line.length ∧ (⟨met', out', line⟩ : BS) = (xs.take i).foldl (visit v) ⟨met5, out5, v :: rest⟩) xs.length ⟨0, met5, out5, v :: rest, (.slice (some ⟨bp, offp, none⟩) ((v :: rest).length) capp), Nat.zero_le _, rfl, ⟨rfl, rfl, rfl, rfl, rfl, rfl, rfl, rfl, rfl, rfl, trivial⟩, hm5, ho5, hs5, by omega, hp5, hpb5, hL5, hln5, rfl, hj1, rfl⟩ ?_
        rintro m' T H6 N6 ⟨i, met6, out6, line6, pv, hi, rfl, hT, hm6, ho6, hs6, hN6, hp6, hpb6, hL6, hln6, hun6, hpos6, hst6⟩
        obtain ⟨J, rfl⟩ := hT.ex
        refine wc_own U fun hBN6 hlt6 => ?_
        repeat (first|refine nt ?_|refine nq ?_|refine wq U ?_)
        refine wg U ?_
        refine wr U (rd_lss U rfl rfl) rfl rfl ?_
        refine wz U ?_
        repeat (first|refine nt ?_|refine nq ?_|refine wq U ?_)
        refine wcd U (t := (decide (((i : Nat) : Int) < ((xs.length : Nat) : Int)))) rfl (fun hci => ?_) fun hci => ?_
        · replace hci := of_decide_eq_true hci
          refine wsk U ?_
          repeat (first|refine nt ?_|refine nq ?_)
          have hi1 : i < xs.length := by omega
          obtain ⟨bu, offu, rfl⟩ := hpu (by omega)
          have hur6 := (hAe _ _ _ hu hxs).sub U hs6
          have hyn := hxn _ (List.getElem_mem hi1)
          obtain ⟨by6, hby⟩ := get_ex (l := met6) (i := xs[i]) (by rw [hL6.lm]; exact hyn)
          obtain ⟨ov6, hov⟩ := get_ex (l := out6) (i := v) (by rw [hL6.lo]; exact hpx)
          have hovb := hL6.b _ _ hov
          repeat (first|refine nt ?_|refine nq ?_|refine wq U ?_)
          refine wc_block U ?_
          repeat (first|refine nt ?_|refine nq ?_|refine wq U ?_)
          refine wg U ?_
          refine wr U (rd_idx1 U (j := i) sl_26 rfl rfl (by omega)) rfl rfl ?_
          refine wr U (rl1 U el_3 rfl (v := (.int .i64 ((xs[i] : Nat) : Int))) (hur6.n0 U hi1)) rfl rfl ?_
          refine wr U ((ra U).to (v' := (.int .i64 ((xs[i] : Nat) : Int))) rfl) rfl rfl ?_
          refine wz U ?_
          repeat (first|refine nt ?_|refine nq ?_|refine wq U ?_)
          refine wg U ?_
          refine wr U ((rm U).to (v' := (.slice (some ⟨(N1 + 1), 0, none⟩) n n)) rfl) rfl rfl ?_
          refine wr U ((rm U).to (v' := (.int .i64 ((xs[i] : Nat) : Int))) rfl) rfl rfl ?_
          refine wr U (rd_idx1 U (j := xs[i]) sl_67 rfl rfl (by omega)) rfl rfl ?_
          refine wr U (rl1 U el_4 rfl (v := (.bool by6)) (rd_at U (by omega) hm6 (bools_get hby))) rfl rfl ?_
          refine wr U (rd_not U rfl) rfl rfl ?_
          refine wz U ?_
          repeat (first|refine nt ?_|refine nq ?_|refine wq U ?_)
          refine wcd U (t := (!by6)) rfl (fun hbt => ?_) fun hbt => ?_
          · skip
            have hbf : by6 = false := by simpa using hbt
            subst hbf
            repeat (first|refine nt ?_|refine nq ?_|refine wq U ?_)
            refine wg U ?_
            refine wr U ((rm U).to (v' := (.slice (some ⟨(N1 + 1), 0, none⟩) n n)) rfl) rfl rfl ?_
            refine wr U ((rm U).to (v' := (.int .i64 ((xs[i] : Nat) : Int))) rfl) rfl rfl ?_
            refine wr U ((rm U).to (v' := (.slice (some ⟨N1, 0, none⟩) n n)) rfl) rfl rfl ?_
            refine wr U ((rm U).to (v' := (.int .i64 ((xs[i] : Nat) : Int))) rfl) rfl rfl ?_
            refine wr U ((rm U).to (v' := (.slice (some ⟨N1, 0, none⟩) n n)) rfl) rfl rfl ?_
            refine wr U ((rm U).to (v' := (.int .i64 ((v : Nat) : Int))) rfl) rfl rfl ?_
            refine wr U (rd_idx1 U (j := v) sl_26 rfl rfl (by omega)) rfl rfl ?_
            refine wr U (rl1 U el_3 rfl (v := (.int .i64 ((ov6 : Nat) : Int))) (rd_at U (by omega) ho6 (nats_get? hov))) rfl rfl ?_
            refine wr U (rd_add U rfl rfl (by omega) (by omega)) rfl rfl ?_
            refine wr U (rd_idx1 U (j := xs[i]) sl_67 rfl rfl (by omega)) rfl rfl ?_
            refine wl_op0 U rfl (op_store1 U el_4 rfl rfl rfl rfl hm6 (by omega) (by rw [bools_length, hL6.lm]; omega) ?_)
            refine wr U (rd_idx1 U (j := xs[i]) sl_26 rfl rfl (by omega)) rfl rfl ?_
            refine wl_op0 U rfl (op_store1 U el_3 rfl rfl rfl rfl ((hsn (by omega)).trans ho6) (by omega) (by rw [nats_length, hL6.lo]; omega) ?_)
            refine wz U ?_
            refine wc_gen U (fun Hs => Hs (N1 + 1) = some (.row 4 0 (bools (met6.set xs[i] true)) n) ∧ Hs N1 = some (.row 3 0 (nats (out6.set xs[i] (ov6 + 1))) n) ∧ Sub R Hs ∧ IsSl Hs pv 3 1 (nats line6)) ⟨?_, ?_, ?_, ?_⟩ ?_
            · rw [hsn (by omega), hsy]; exact congrArg (fun l => some (Blk.row 4 0 l n)) (bools_set _ _ _)
            · rw [hsy]; exact congrArg (fun l => some (Blk.row 3 0 l n)) (nats_set _ _ _)
            · intro c o hc; have := hltR c o hc; rw [hsn (b := c) (by omega), hsn (b := c) (by omega)]; exact hs6 c o hc
            · exact hp6.at fun c hc => by have := hpb6 c hc; rw [hsn (b := c) (by omega), hsn (b := c) (by omega)]
            rintro H8 ⟨hm8, ho8, hs8, hp8⟩ hBN8 hlt8
            have hcu : unmet met5 ≤ n := by rw [← hL5.lm]; exact List.count_le_length
            have hll6 : line6.length ≤ 128 := by simp only [List.length_cons] at hun6 hfu5; omega
            repeat (first|refine nt ?_|refine nq ?_|refine wq U ?_)
            refine wg U ?_
            refine wr U ((rm U).to (v' := pv) rfl) rfl rfl ?_
            refine wr U ((rm U).to (v' := (.int .i64 ((xs[i] : Nat) : Int))) rfl) rfl rfl ?_
            refine wl_op U rfl rfl (op_bs U sl_26 rfl (by decide) (by decide) [(.int .i64 ((xs[i] : Nat) : Int))] rfl (by simp [Value.cells]) rfl (cs := [(.int .i64 ((xs[i] : Nat) : Int))]) rfl ?_)
            refine wl_op U rfl rfl (op_append1 U (H0 := _) (cs := nats line6) (ys := [(.int .i64 ((xs[i] : Nat) : Int))]) sl_26 rfl (by decide) rfl hp8 (fun hc => by have := hp8.lt hlt8 hc; omega) rfl rfl rfl (by omega) (one1 rfl) (by rw [nats_length]; omega) (by rw [nats_length]; omega) ?_)
            intro wA HA NA hNA hslA hfrA hloA
            refine wr U ((ra U).to (v' := wA) rfl) rfl rfl ?_
            refine wz U ?_
            repeat (first|refine nt ?_|refine nq ?_)
            have hA : ∀ c, c < N3 → HA c = H8 c := fun c hc => (hfrA c (by omega) (fun h => by have := hpb6 _ h; omega)).trans (hsn (by omega))
            repeat (first|refine nt ?_|refine nq ?_|refine wq U ?_)
            refine wg U ?_
            refine wr U (rd_add U rfl rfl (by omega) (by omega)) rfl rfl ?_
            refine wr U ((rm U).to (v' := (.int .i64 (((i : Nat) : Int) + 1))) rfl) rfl rfl ?_
            refine wz U ?_
            repeat (first|refine nt ?_|refine nq ?_)
            refine ⟨xs.length - (i + 1), by omega, i + 1, met6.set xs[i] true, out6.set xs[i] (ov6 + 1), line6 ++ [xs[i]], wA, by omega, rfl, ⟨rfl, rfl, rfl, rfl, rfl, rfl, rfl, rfl, rfl, rfl, trivial⟩, (hA _ (by omega)).trans hm8, (hA _ (by omega)).trans ho8, ?_, by omega, by rw [nats_append]; exact hslA, ?_, hL6.visit hby hov, ?_, ?_, by simp, ?_⟩
            · intro c o hc; have := hltR c o hc; rw [hA c (by omega)]; exact hs8 c o hc
            · intro c hc; obtain ⟨c2, h1, h2, h3⟩ := hloA; rw [h1] at hc; cases hc; rcases h3 with h3 | h3
              · exact hpb6 _ h3
              · omega
            · intro x hx; rcases List.mem_append.1 hx with h | h
              · exact hln6 x h
              · simp at h; omega
            · have := unmet_set hby; rw [List.length_append, List.length_singleton]; omega
            · rw [List.take_succ_eq_append_getElem hi1, List.foldl_append, ← hst6]; exact (visit_no (s := ⟨met6, out6, line6⟩) hby hov).symm
          · skip
            have hbf : by6 = true := by simpa using hbt
            subst hbf
            refine wsk U ?_
            repeat (first|refine nt ?_|refine nq ?_)
            repeat (first|refine nt ?_|refine nq ?_|refine wq U ?_)
            refine wg U ?_
            refine wr U (rd_add U rfl rfl (by omega) (by omega)) rfl rfl ?_
            refine wr U ((rm U).to (v' := (.int .i64 (((i : Nat) : Int) + 1))) rfl) rfl rfl ?_
            refine wz U ?_
            repeat (first|refine nt ?_|refine nq ?_)
            refine ⟨xs.length - (i + 1), by omega, i + 1, met6, out6, line6, pv, by omega, rfl, ⟨rfl, rfl, rfl, rfl, rfl, rfl, rfl, rfl, rfl, rfl, trivial⟩, hm6, ho6, hs6, hN6, hp6, hpb6, hL6, hln6, hun6, hpos6, ?_⟩
            rw [List.take_succ_eq_append_getElem hi1, List.foldl_append, ← hst6]; exact (visit_yes (s := ⟨met6, out6, line6⟩) hby).symm
        · replace hci := of_decide_eq_false hci
          refine wc_exit U ?_
          repeat (first|refine xt ?_|refine xps (by decide) ?_)
          refine xbl ?_
          repeat (first|refine nt ?_|refine nq ?_)
          obtain rfl : i = xs.length := by omega
          rw [List.take_length] at hst6
          repeat (first|refine nt ?_|refine nq ?_|refine wq U ?_)
          refine wg U ?_
          refine wr U ((rm U).to (v' := pv) rfl) rfl rfl ?_
          refine wl_op U rfl rfl (op_cut U sl_26 rfl hp6 (by rw [nats_length]; exact hpos6) rfl ?_)
          intro w7 H7 hsl7 hbl7 hfr7
          refine wr U ((ra U).to (v' := w7) rfl) rfl rfl ?_
          refine wz U ?_
          repeat (first|refine nt ?_|refine nq ?_)
          obtain ⟨m0, rfl⟩ : ∃ m0, m = m0 + 1 := ⟨m - 1, by simp only [List.length_cons] at hfu5; omega⟩
          have hpne : ∀ c, c < N3 → H7 c = H6 c := fun c hc => hfr7 c (fun h => by have := hpb6 _ h; omega)
          refine ⟨m0, by omega, met6, out6, line6.drop 1, w7, ⟨rfl, rfl, rfl, rfl, rfl, rfl, trivial⟩, (hpne _ (by omega)).trans hm6, (hpne _ (by omega)).trans ho6, ?_, hN6, by rw [← nats_drop]; exact hsl7, (fun c hc => hpb6 c (hbl7.symm.trans hc)), hL6, (fun x hx => hln6 x (List.mem_of_mem_drop hx)), by omega, ?_, ?_⟩
          · intro c o hc; have := hltR c o hc; rw [hpne c (by omega)]; exact hs6 c o hc
          · rw [List.length_drop]; simp only [List.length_cons] at hun6 hfu5; omega
          · rw [← hb5, bfs_cons (nearL n E) m0 (s := ⟨met5, out5, v :: rest⟩) rfl, around, hxg, ← hst6]
      · replace hcj := of_decide_eq_false hcj
        refine wc_exit U ?_
        repeat (first|refine xt ?_|refine xps (by decide) ?_)
        refine xbl ?_
        repeat (first|refine nt ?_|refine nq ?_)
        have hl0 : line = [] := List.eq_nil_of_length_eq_zero (by omega)
        subst hl0
        rw [bfs_nil _ _ rfl] at hb5
        repeat (first|refine nt ?_|refine nq ?_|refine wq U ?_)
        refine wg U ?_
        refine wr U (rd_add U rfl rfl (by omega) (by omega)) rfl rfl ?_
        refine wr U ((rm U).to (v' := (.int .i64 (((k : Nat) : Int) + 1))) rfl) rfl rfl ?_
        refine wz U ?_
        repeat (first|refine nt ?_|refine nq ?_)
        refine ⟨n - (k + 1), by omega, k + 1, met5, out5, by omega, rfl, ⟨rfl, rfl, rfl, rfl, rfl, trivial⟩, hm5, ho5, hs5, by omega, hL5, ?_⟩
        rw [levAcc_succ, ← hlev, first_no hbk, ← hb5]
  · replace hck := of_decide_eq_false hck
    refine wc_exit U ?_
    repeat (first|refine xt ?_|refine xps (by decide) ?_)
    refine xbl ?_
    repeat (first|refine nt ?_|refine nq ?_)
    have hkn : k = n := by omega
    rw [hkn] at hlev
    repeat (first|refine nt ?_|refine nq ?_|refine wq U ?_)
    refine wg U ?_
    refine wr U ((rm U).to (v' := (.slice (some ⟨N1, 0, none⟩) n n)) rfl) rfl rfl ?_
    refine wr U ((ra U).to (v' := (.slice (some ⟨N1, 0, none⟩) n n)) rfl) rfl rfl ?_
    refine wr U ((ra U).to (v' := (.int .i64 0)) rfl) rfl rfl ?_
    refine wz U ?_
    refine wc_ret U ?_
    repeat (first|refine ret1 ?_|refine ret2 ?_)
    exact end2 U (.inl rfl) rfl (v := (.slice (some ⟨N1, 0, none⟩) n n)) (v' := (.int .i64 0)) rfl rfl ⟨_, rfl, by rw [levL, ← hlev]; exact row_rds U (by omega) ho3 (by rw [nats_length, hL.lo]) (Nat.le_refl _), hsR.trans hs3, by omega⟩
end Go.Proofs.YtdmodppoellbkaaGreat
namespace Go.Proofs.YtdmodppoellbkaaGreat
open Go Go.RowKit
variable (U : Cx)
def keptB (k s x : Nat) : Bool := decide ((x + k + 1 - s) % (k + 1) ≠ 0)
def keptL (n : Nat) (E : List NE) (k s : Nat) : List Bool := (levL n E).map (keptB k s)
theorem kept_int {k s x : Nat} (hs : s ≤ k) : decide ((((x : Int) + (k : Int)) + 1 - (s : Int)).tmod ((k : Int) + 1) ≠ 0) = keptB k s x := by
  unfold keptB
  have h1 : ((x : Int) + (k : Int)) + 1 - (s : Int) = ((x + k + 1 - s : Nat) : Int) := by omega
  have h2 : (k : Int) + 1 = ((k + 1 : Nat) : Int) := by omega
  rw [h1, h2, ← Int.ofNat_tmod]
  congr 1
  apply propext
  constructor <;> intro h h' <;> apply h <;> omega
theorem bfs_lev {n : Nat} {E : List NE} (hg : GOk n E) : (levL n E).length = n ∧ ∀ x ∈ levL n E, x ≤ n := by
  have key : ∀ (near : List (List Nat)) (n f : Nat) (s : BS), (∀ v, v < n → ∀ u ∈ near.getD v [], u < n) → Lev n s.met s.out → (∀ x ∈ s.line, x < n) → Lev n (bfs near f s).met (bfs near f s).out := by
    intro near n f
    induction f with
    | zero => intro s _ h _; exact h
    | succ f ih =>
      intro s hn h hl
      cases hs : s.line with
      | nil => rw [bfs_nil _ _ hs]; exact h
      | cons v l =>
        rw [bfs_cons _ _ hs]
        have hv : v < n := hl v (by rw [hs]; simp)
        have fold : ∀ (xs : List Nat) (s : BS), (∀ u ∈ xs, u < n) → Lev n s.met s.out → (∀ x ∈ s.line, x < n) → Lev n (xs.foldl (visit v) s).met (xs.foldl (visit v) s).out ∧ ∀ x ∈ (xs.foldl (visit v) s).line, x < n := by
          intro xs
          induction xs with
          | nil => intro s _ h hl; exact ⟨h, hl⟩
          | cons u xs ih2 =>
            intro s hx h hl
            have hu : u < n := hx u (by simp)
            rw [List.foldl_cons]
            obtain ⟨b, hb⟩ := get_ex (l := s.met) (i := u) (by rw [h.lm]; exact hu)
            obtain ⟨x, hx'⟩ := get_ex (l := s.out) (i := v) (by rw [h.lo]; exact hv)
            cases b with
            | true => rw [visit_yes hb]; exact ih2 s (fun u hu => hx u (by simp [hu])) h hl
            | false =>
              rw [visit_no hb hx']
              refine ih2 _ (fun u hu => hx u (by simp [hu])) (h.visit hb hx') ?_
              intro y hy
              rcases List.mem_append.1 hy with h1 | h1
              · exact hl y h1
              · simp at h1; omega
        have := fold (near.getD v []) s (hn v hv) h hl
        exact ih _ hn this.1 (fun x hx => this.2 x (List.mem_of_mem_drop hx))
  have acc : ∀ k, k ≤ n → Lev n (levAcc n E k).1 (levAcc n E k).2 := by
    intro k
    induction k with
    | zero => intro _; exact Lev.start n
    | succ k ih =>
      intro hk
      have h := ih (by omega)
      rw [levAcc_succ]
      obtain ⟨b, hb⟩ := get_ex (l := (levAcc n E k).1) (i := k) (by rw [h.lm]; exact hk)
      cases b with
      | true => rw [first_yes hb]; exact h
      | false =>
        rw [first_no hb]
        exact key _ n n ⟨_, _, [k]⟩ (fun v _ u hu => nearL_lt hg hu) (h.met hb) (by intro x hx; simp at hx; omega)
  have h := acc n (Nat.le_refl _)
  refine ⟨h.lo, fun x hx => ?_⟩
  obtain ⟨i, hi⟩ := List.getElem?_of_mem hx
  have := h.b i x hi
  omega
theorem keptL_length {n : Nat} {E : List NE} (hg : GOk n E) (k s : Nat) : (keptL n E k s).length = n := by rw [keptL, List.length_map, (bfs_lev hg).1]
end Go.Proofs.YtdmodppoellbkaaGreat
