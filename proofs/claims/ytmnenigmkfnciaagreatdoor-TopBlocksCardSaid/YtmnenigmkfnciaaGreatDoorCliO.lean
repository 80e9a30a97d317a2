/- pool: the clients that have requests (the kit's walk over the map). No condition. -/
import Derived.Test.YtmnenigmkfnciaaGreatDoorProg
import Derived.Maps.RangeWalk
import Derived.Maps.AppendAt
import Derived.Laws.AppendOwn
import Derived.OwnWalk
import Derived.Sort.OwnSortedInts
import Derived.Shelf.SortM.Plain
import Derived.Shelf.SortM.SortNone
import Derived.WalkKit
set_option linter.unusedVariables false
set_option linter.unusedSimpArgs false
namespace Go.Proofs.YtmnenigmkfnciaaGreatDoor.Cli
open Go.Proofs
open Go.RowKit Go.Maps Go.Sort Go.Shelf
def Tryz.sortA_ren : Go.Shelf.Ren := ⟨fun | 5 => 64 | 8 => 94 | 7 => 93 | 19 => 134 | 20 => 135 | 10 => 125 | 11 => 126 | 12 => 127 | 13 => 128 | 14 => 129 | 15 => 130 | 16 => 131 | 17 => 132 | 18 => 133 | 30 => 161 | 31 => 162 | 32 => 163 | 33 => 164 | 34 => 165 | 35 => 166 | 40 => 179 | n => n, fun | 23 => 76 | 25 => 3 | 3 => 3 | 32 => 132 | 22 => 76 | 0 => 0 | 44 => 197 | 46 => 65 | 4 => 4 | 36 => 230 | 35 => 229 | 41 => 73 | 5 => 5 | 9 => 9 | 53 => 256 | 57 => 260 | 63 => 277 | 64 => 278 | n => n, fun | n => n⟩
theorem Tryz.sortA : Go.Proofs.SlLaysM.n5 Tryz.prog Tryz.sortA_ren := {
  mixed := by kernel_rfl
  f5 := ⟨Tryz.f64.name, by decide, Tryz.func64.trans (congrArg some (by kernel_rfl))⟩
  f7 := ⟨Tryz.f93.name, by decide, Tryz.func93.trans (congrArg some (by kernel_rfl))⟩
  f8 := Tryz.func94.trans (congrArg some (by kernel_rfl))
  f10 := ⟨Tryz.f125.name, by decide, Tryz.func125.trans (congrArg some (by kernel_rfl))⟩
  f11 := ⟨Tryz.f126.name, by decide, Tryz.func126.trans (congrArg some (by kernel_rfl))⟩
  f12 := ⟨Tryz.f127.name, by decide, Tryz.func127.trans (congrArg some (by kernel_rfl))⟩
  f13 := ⟨Tryz.f128.name, by decide, Tryz.func128.trans (congrArg some (by kernel_rfl))⟩
  f14 := ⟨Tryz.f129.name, by decide, Tryz.func129.trans (congrArg some (by kernel_rfl))⟩
  f15 := ⟨Tryz.f130.name, by decide, Tryz.func130.trans (congrArg some (by kernel_rfl))⟩
  f16 := ⟨Tryz.f131.name, by decide, Tryz.func131.trans (congrArg some (by kernel_rfl))⟩
  f17 := ⟨Tryz.f132.name, by decide, Tryz.func132.trans (congrArg some (by kernel_rfl))⟩
  f18 := ⟨Tryz.f133.name, by decide, Tryz.func133.trans (congrArg some (by kernel_rfl))⟩
  f19 := Tryz.func134.trans (congrArg some (by kernel_rfl))
  f20 := Tryz.func135.trans (congrArg some (by kernel_rfl))
  f30 := ⟨Tryz.f161.name, by decide, Tryz.func161.trans (congrArg some (by kernel_rfl))⟩
  f31 := Tryz.func162.trans (congrArg some (by kernel_rfl))
  f32 := Tryz.func163.trans (congrArg some (by kernel_rfl))
  f33 := ⟨Tryz.f164.name, by decide, Tryz.func164.trans (congrArg some (by kernel_rfl))⟩
  f34 := ⟨Tryz.f165.name, by decide, Tryz.func165.trans (congrArg some (by kernel_rfl))⟩
  f35 := ⟨Tryz.f166.name, by decide, Tryz.func166.trans (congrArg some (by kernel_rfl))⟩
  f40 := ⟨Tryz.f179.name, by decide, Tryz.func179.trans (congrArg some (by kernel_rfl))⟩
  t0 := Tryz.underlying0
  a0 := Tryz.isAgg0
  z0 := Tryz.sizeOf0
  v0 := Tryz.zeroValue0
  t3 := Tryz.underlying3
  a3 := Tryz.isAgg3
  z3 := Tryz.sizeOf3
  v3 := Tryz.zeroValue3
  t4 := Tryz.underlying4
  a4 := Tryz.isAgg4
  z4 := Tryz.sizeOf4
  v4 := Tryz.zeroValue4
  t5 := Tryz.underlying5
  a5 := Tryz.isAgg5
  z5 := Tryz.sizeOf5
  v5 := Tryz.zeroValue5
  t9 := Tryz.underlying9
  a9 := Tryz.isAgg9
  z9 := Tryz.sizeOf9
  v9 := Tryz.zeroValue9
  t22 := Tryz.underlying76
  a22 := Tryz.isAgg76
  z22 := Tryz.sizeOf76
  v22 := Tryz.zeroValue76
  t23 := Tryz.underlying76
  a23 := Tryz.isAgg76
  z23 := Tryz.sizeOf76
  v23 := Tryz.zeroValue76
  t25 := Tryz.underlying3
  a25 := Tryz.isAgg3
  z25 := Tryz.sizeOf3
  v25 := Tryz.zeroValue3
  t32 := Tryz.underlying132
  a32 := Tryz.isAgg132
  z32 := Tryz.sizeOf132
  v32 := Tryz.zeroValue132
  t35 := Tryz.underlying229
  a35 := Tryz.isAgg229
  z35 := Tryz.sizeOf229
  v35 := Tryz.zeroValue229
  t36 := Tryz.underlying230
  a36 := Tryz.isAgg230
  z36 := Tryz.sizeOf230
  v36 := Tryz.zeroValue230
  t41 := Tryz.underlying73
  a41 := Tryz.isAgg73
  z41 := Tryz.sizeOf73
  v41 := Tryz.zeroValue73
  t44 := Tryz.underlying197
  a44 := Tryz.isAgg197
  z44 := Tryz.sizeOf197
  v44 := Tryz.zeroValue197
  t46 := Tryz.underlying65
  a46 := Tryz.isAgg65
  z46 := Tryz.sizeOf65
  v46 := Tryz.zeroValue65
  t53 := Tryz.underlying256
  a53 := Tryz.isAgg256
  z53 := Tryz.sizeOf256
  v53 := Tryz.zeroValue256
  t57 := Tryz.underlying260
  a57 := Tryz.isAgg260
  z57 := Tryz.sizeOf260
  v57 := Tryz.zeroValue260
  t63 := Tryz.underlying277
  a63 := Tryz.isAgg277
  z63 := Tryz.sizeOf277
  v63 := Tryz.zeroValue277
  t64 := Tryz.underlying278
  a64 := Tryz.isAgg278
  z64 := Tryz.sizeOf278
  v64 := Tryz.zeroValue278 }
/-- A slice of at most so many elements: no more is read of it. -/
def lenR (v : Value) : Option (DataW Unit × List MemPlace) := match v with
  | .slice _ n _ => match decide (n ≤ 1000) with
    | true => some (.lit (.bool true), [])
    | false => none
  | _ => none
theorem lenR_inv {v : Value} {y : DataW Unit × List MemPlace} (h : lenR v = some y) : ∃ c : Option Addr × Nat × Nat, v = .slice c.1 c.2.1 c.2.2 := by
  unfold lenR at h
  split at h
  · exact ⟨(_, _, _), rfl⟩
  · cases h
theorem lenR_len {p : Option Addr} {n c : Nat} {y : DataW Unit × List MemPlace} (h : lenR (.slice p n c) = some y) : n ≤ 1000 := by
  rcases Nat.lt_or_ge 1000 n with hn | hn
  · simp only [lenR, decide_eq_false (show ¬ n ≤ 1000 by omega)] at h
    cases h
  · exact hn
theorem row_ne_iter' {w : World} {b r n : Nat} {D : DataW Unit} {left : Lit → Bool} {cnt base : Nat} {e : TypeId} {size : Nat} {v : Value} {m : Nat} {xs : List Value}
    (h : w.ownsRow base e size v m xs) (hr : w.ranges Tryz.prog 3 lenR b r n D left cnt) : some r ≠ v.ownBlock := by
  obtain ⟨_, _, _, _, _, _, _, _, _, hit, _⟩ := hr
  rcases h.2 with ⟨rfl, _⟩ | ⟨g, cap, cur, rfl, _, hb, _⟩
  · simp [Value.ownBlock]
  · intro e
    simp only [Value.ownBlock, Option.some.injEq] at e
    subst e
    rw [hb] at hit
    cases hit
theorem row_ne_low' {w : World} {base : Nat} {e : TypeId} {size : Nat} {v : Value} {n : Nat} {xs : List Value} (h : w.ownsRow base e size v n xs) {b : Nat} (hb : b < base) : some b ≠ v.ownBlock := fun e1 => by
  have := (h.lt b e1.symm).1
  omega
theorem law3 : Keyed Tryz.prog 3 := int_keyed Tryz.underlying3
theorem info3 : (Tryz.prog.info? 3).map (fun i => (i.zero, i.size, i.bytes)) = some (some (.int .i64 0), 1, 8) := by kernel_rfl
/-- What is collected: keys that have been met, none twice. -/
def Coll (D0 : DataW Unit) (left : Lit → Bool) (ss : List Int) : Prop := ss.Nodup ∧ ∀ x ∈ ss, Maps.has D0 (.int .i64 x) = true ∧ left (.int .i64 x) = false
theorem coll_keep {D0 : DataW Unit} {left : Lit → Bool} {ss : List Int} {x : Int} (h : Coll D0 left ss) : Coll D0 (fun z => left z && !z.sameKey (.int .i64 x)) ss :=
  ⟨h.1, fun y hy => ⟨(h.2 y hy).1, by show (left (.int .i64 y) && !(Lit.int .i64 y).sameKey (.int .i64 x)) = false; rw [(h.2 y hy).2, Bool.false_and]⟩⟩
theorem coll_add {D0 : DataW Unit} {left : Lit → Bool} {ss : List Int} {x : Int} (h : Coll D0 left ss) (hl : left (.int .i64 x) = true) (hh : Maps.has D0 (.int .i64 x) = true) : Coll D0 (fun z => left z && !z.sameKey (.int .i64 x)) (ss ++ [x]) := by
  refine ⟨?_, fun y hy => ?_⟩
  · rw [List.nodup_append]
    refine ⟨h.1, by simp, fun a ha b hb => ?_⟩
    simp only [List.mem_singleton] at hb
    subst hb
    intro e
    subst e
    rw [(h.2 _ ha).2] at hl
    cases hl
  · rcases List.mem_append.1 hy with h1 | h1
    · exact (coll_keep h).2 y h1
    · simp only [List.mem_singleton] at h1
      subst h1
      exact ⟨hh, by simp [Lit.sameKey]⟩
set_option maxHeartbeats 4000000 in
set_option maxRecDepth 100000 in
theorem clients_walk (pb po b nn : Nat) (D0 : DataW Unit) (w : World) (hc : w.cell? ⟨pb, po, none⟩ = some (.map (some b))) (hown : w.ownsMap Tryz.prog 3 lenR b nn D0) (hmax : Maps.size D0 ≤ 1000)
    (hsort : ∀ (blk cap : Nat) (zs : List Int) (w : World), Holds (Value.int .i64) w blk 0 zs.toArray → blk < w.heap.size → zs.length < 4611686018427387904 → Calls Tryz.prog 64 #[.slice (some ⟨blk, 0, none⟩) zs.length cap] w fun e w' =>
      e = .returned (.tuple #[]) ∧ ∃ n os, w' = grow (putRow (Value.int .i64) (Sort.ahead w n) blk 0 (zs.mergeSort fun x y => decide (x ≤ y)).toArray) os)
    (hnone : ∀ (p : Option Addr) (cap : Nat) (w : World), Calls Tryz.prog 64 #[.slice p 0 cap] w fun e w' => e = .returned (.tuple #[]) ∧ w' = w) :
    Calls Tryz.prog 30 #[.pointer (some ⟨pb, po, none⟩)] w fun e w' => ∃ (v : Value) (ss : List Int) (m : Int), e = .returned (.tuple #[v, .int .i64 m]) ∧ (0 ≤ m ∧ m ≤ 1000) ∧ ss.length ≤ Maps.size D0 ∧ ss.Nodup ∧ (∀ x ∈ ss, Maps.has D0 (.int .i64 x) = true) ∧
      w'.ownsRow w.heap.size 3 1 v ss.length (ss.map (Value.int .i64)) ∧ Below w.heap.size w w' := by
  obtain ⟨i0, hi, hz0, hz1, hz2⟩ := info_parts info3
  have hbl := hown.lt
  go_enter Tryz.func30, Tryz.ntmps30
  go_wp2_with (first
    | (at_range; refine wpList_range_own _ rfl _ 68 rfl 3 27 law3 Tryz.underlying68 _ b nn _ rfl hown ?_; intro w0 hrg0 hg0 hs0)
    | go_in)
  go_frame
  go_loopw [4, 5] (fun v mv wr => ∃ (left : Lit → Bool) (cnt : Nat) (ss : List Int) (m : Int), mv = .int .i64 m ∧ (0 ≤ m ∧ m ≤ 1000) ∧ wr.ranges Tryz.prog 3 lenR b w.heap.size nn D0 left cnt ∧ ss.length + cnt ≤ Maps.size D0 ∧
      wr.ownsRow w.heap.size 3 1 v ss.length (ss.map (Value.int .i64)) ∧ (Coll D0 left ss ∧ ∀ kl, left kl = true → Maps.has D0 kl = true) ∧ Below w.heap.size w wr)
    (fun _ _ wr => wr.rangeLeft b w.heap.size)
  case atStart =>
    exact ⟨_, _, [], 0, rfl, ⟨by omega, by omega⟩, hrg0, by simp, World.ownsRow_nil _ _ _ _, ⟨⟨List.nodup_nil, by simp⟩, fun _ h => h⟩, (Below.refl _ _).grown hg0 (Nat.le_refl _) (fun j hj => by cases hj)⟩
  case round =>
    obtain ⟨left, cnt, ss, m, rfl, hm, hrg, hcs, hrow, ⟨hC, hL⟩, hnx⟩ := hrel
    go_wp2_with (first
      | (at_next; refine wpList_next_ranges _ rfl _ rfl 3 law3 lenR (Value.int .i64) (fun c : Option Addr × Nat × Nat => Value.slice c.1 c.2.1 c.2.2) (fun key kl hk => by obtain ⟨x, hx, _⟩ := Maps.keyOf_int_inv Tryz.underlying3 hk; exact ⟨x, hx⟩) (fun v y hv => lenR_inv hv) b w.heap.size nn _ _ _ rfl hrg ?_ ?_)
      | go_in)
    · intro hc0 hl0
      rcases hrow.2 with ⟨rfl, hz⟩ | ⟨g, cap, cur, rfl, hbase, hb, h1, h2, h3, h4⟩
      · have hss : ss = [] := List.eq_nil_of_length_eq_zero hz
        subst hss
        have hcl := hnone none 0 wr
        go_wp2_with (go_at_call 64; refine hcl.mono ?_; rintro e w' ⟨rfl, rfl⟩)
        go_ret2
        exact ⟨_, [], m, rfl, hm, by simp, List.nodup_nil, by simp, hrow, hnx⟩
      · have hgl : g < wr.heap.size := (Array.getElem?_eq_some_iff.1 hb).1
        have hcl := hsort g cap ss wr (holds_of_blockI hb (by simpa using h4)) hgl (by omega)
        go_wp2_with (go_at_call 64; refine hcl.mono ?_; rintro e w' ⟨rfl, nn', os, rfl⟩)
        go_ret2
        refine ⟨_, ss.mergeSort (fun x y => decide (x ≤ y)), m, rfl, hm, by rw [List.length_mergeSort]; omega, ((List.mergeSort_perm ss _).nodup_iff).2 hC.1, fun x hx => (hC.2 x ((List.mergeSort_perm ss _).mem_iff.1 hx)).1, ?_, ?_⟩
        · rw [List.length_mergeSort]
          exact ownsRow_sortedI (by simp) hbase hb h1 h2 h3
        · exact hnx.grown (grownBy_sortedI _) hnx.size (fun j hj => by cases hj; exact hbase)
    · intro x p n q kl yd yp w2 cnt2 hkey hlk hv hat hrg2 hlt hg2 hs2 hen
      obtain ⟨x', ex, rfl, _⟩ := Maps.keyOf_int_inv Tryz.underlying3 hkey
      obtain rfl : x = x' := by injection ex
      have hn := lenR_len hv
      have hrow2 := hrow.kept hg2 (Or.inr (row_ne_iter' hrow hrg).symm)
      have hnx2 := hnx.grown hg2 hnx.size (fun j hj => by cases hj; exact Nat.le_refl _)
      clear hs2
      go_wp2_with (first
        | (at_builtin; refine wpList_append_own _ rfl _ _ 76 rfl w.heap.size 3 i0 (.int .i64 0) 1 8 Tryz.underlying76 hi hz0 hz1 hz2 rfl (by decide) _ _ _ rfl (hrow2.alloc _) ⟨w2.heap.size, 0, none⟩ 1 1 [.int .i64 x] rfl rfl (cell_one_new _ _ _) (ints_oneCell .i64 [x]) (by unfold maxLen; omega) (by omega) (by have := hnx2.size; simp; omega) ?_; intro v' w3 hown' hg3 hnil3)
        | go_in)
      · have hrg3 := (hrg2.alloc _).kept hg3 (row_ne_low' hrow2 (by have := hown.lt; exact this)) (row_ne_iter' hrow2 hrg2)
        go_roundw
        case rel =>
          refine ⟨_, cnt2, ss ++ [x], max m (n : Int), rfl, by omega, hrg3, by simp; omega, by simpa using hown', ⟨coll_add hC hlk (hL _ hlk), fun kl hk => hL kl (by simp only [Bool.and_eq_true] at hk; exact hk.1)⟩, ?_⟩
          exact (hnx2.alloc hnx2.size _).grown hg3 (by have := hnx2.size; simp; omega) (fun j hj => (hrow2.lt j hj).1)
        case measure => rw [hrg3.left_eq, hrg.left_eq]; exact hlt
      · go_roundw
        case rel =>
          exact ⟨_, cnt2, ss, m, rfl, hm, hrg2, by omega, hrow2, ⟨coll_keep hC, fun kl hk => hL kl (by simp only [Bool.and_eq_true] at hk; exact hk.1)⟩, hnx2⟩
        case measure => rw [hrg2.left_eq, hrg.left_eq]; exact hlt
theorem clients_run (pb po b nn : Nat) (D0 : DataW Unit) (w : World) (hc : w.cell? ⟨pb, po, none⟩ = some (.map (some b))) (hown : w.ownsMap Tryz.prog 3 lenR b nn D0) (hmax : Maps.size D0 ≤ 1000) :
    Calls Tryz.prog 30 #[.pointer (some ⟨pb, po, none⟩)] w fun e w' => ∃ (v : Value) (ss : List Int) (m : Int), e = .returned (.tuple #[v, .int .i64 m]) ∧ (0 ≤ m ∧ m ≤ 1000) ∧ ss.length ≤ Maps.size D0 ∧ ss.Nodup ∧ (∀ x ∈ ss, Maps.has D0 (.int .i64 x) = true) ∧
      w'.ownsRow w.heap.size 3 1 v ss.length (ss.map (Value.int .i64)) ∧ Below w.heap.size w w' :=
  clients_walk pb po b nn D0 w hc hown hmax (fun blk cap zs w hH hb hz => AnyM.slices_Sort_int Tryz.sortA blk 0 cap zs w hH hb hz) (fun p cap w => AnyM.slices_Sort_int_none Tryz.sortA p cap w)
end Go.Proofs.YtmnenigmkfnciaaGreatDoor.Cli
