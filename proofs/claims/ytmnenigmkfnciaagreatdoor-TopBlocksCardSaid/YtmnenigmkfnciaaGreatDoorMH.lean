/- TopBlocks: the law's code piece by piece. No condition. -/
import Derived.Test.YtmnenigmkfnciaaGreatDoorSx13
import Derived.Test.YtmnenigmkfnciaaGreatDoorProg
import Derived.Test.YtmnenigmkfnciaaGreatDoorBase
import Derived.Test.YtmnenigmkfnciaaGreatDoorMB
import Derived.Test.YtmnenigmkfnciaaGreatDoorMC
import Derived.Test.YtmnenigmkfnciaaGreatDoorMD
import Derived.Test.YtmnenigmkfnciaaGreatDoorME
import Derived.Test.YtmnenigmkfnciaaGreatDoorMF
import Derived.Test.YtmnenigmkfnciaaGreatDoorMA
import Derived.Test.YtmnenigmkfnciaaGreatDoorMG
/- TopBlocks: an empty pool. No condition. -/
namespace Go.Proofs.YtmnenigmkfnciaaGreatDoor.Sx
open Go Go.Proofs
set_option maxRecDepth 100000
set_option linter.unusedSimpArgs false
set_option linter.unusedVariables false

def r0 : RT := ⟨0, fun _ => 0, fun _ => 0, fun _ => 0, fun _ => 0, fun _ => bstr [], fun _ => bstr []⟩
def R0 : Nat → RT := fun _ => r0
def X0 : Nat → Nat := fun _ => 0
theorem pnew_vf  (K : SV → List Blk → List Nat → Prop) : vf Tryz.prog [] (noI) Tryz.f5 [] [] K =
  (K (SV.ptr (2 : Nat) (0 : Nat)) [Blk.map true false (KS.i IntKind.i64 []) fun (x : Value) => SV.v (Value.slice none (0 : Nat) (0 : Nat)), Blk.map true true (KS.i IntKind.i64 []) fun (x : Value) => SV.v (Value.int IntKind.i64 (0 : Int)), Blk.cells true [SV.mp (0 : Nat), SV.mp (1 : Nat), SV.v (Value.int IntKind.i64 (0 : Int))]] []) := by kernel_rfl
def newPoolS : Spec := .m fun args blks K => match args, blks with
  | [], [] => K (.ptr 0 0) (poolT R0 X0 0) []
  | _, _ => False
theorem newPoolS_ok : SpecOK Tryz.prog 5 newPoolS := by
  refine ⟨enters_of Tryz.func5 rfl rfl, fun args blks K h => ?_⟩
  dsimp only at h
  split at h
  case h_2 => exact h.elim
  refine FnOK.le (FnOK.keepM (FnOK.of_vf mixed .nil Tryz.func5 (I := noI) ((pnew_vf _).mpr ?_)))
  refine ⟨[2, 0, 1], [], _, by kernel_rfl, rfl, .ptr 0 0, poolT R0 X0 0, [], ⟨rfl, rfl⟩, ?_, by kernel_rfl, h⟩
  refine ⟨⟨id, ?_⟩, ⟨id, ⟨rfl, fun x _ => rfl, fun x hx => by cases hx⟩, fun y hy => ⟨fun h => Bool.noConfusion h, ?_⟩⟩, ⟨id, ⟨rfl, fun x _ => rfl, fun x hx => by cases hx⟩, fun y hy => ?_⟩, trivial, trivial, trivial, trivial, trivial, trivial, trivial, trivial, trivial, trivial, trivial, trivial, trivial, trivial, trivial, trivial, trivial⟩
  · simp [preLe, SV.le, veq, isNilS, SV.ren, SV.renL, pos]
  · obtain ⟨z, hz, rfl⟩ := List.mem_map.1 hy
    exact ⟨rfl, rfl⟩
  · obtain ⟨z, hz, rfl⟩ := List.mem_map.1 hy
    exact ⟨fun _ => rfl, by simp [gNext, X0, SV.le, veq]⟩
theorem okP_0 : okP R0 X0 := by
  unfold okP
  intro q hq
  refine ⟨⟨fun i hi => absurd hi (Nat.not_lt_zero i), fun i j hij hj => absurd hj (Nat.not_lt_zero j)⟩, Nat.zero_le _, fun j hj => absurd hj (Nat.not_lt_zero j)⟩

end Go.Proofs.YtmnenigmkfnciaaGreatDoor.Sx
/- TopBlocks: the law's own function: states at its cuts. No condition. -/
namespace Go.Proofs.YtmnenigmkfnciaaGreatDoor.Sx
open Go Go.Proofs
set_option maxRecDepth 100000
set_option linter.unusedSimpArgs false
set_option linter.unusedVariables false

/-- Deeds: kind, number, request. -/
structure DT where
  n : Nat
  kd : Nat → Int
  nn : Nat → Int
  r : RT
def DT.cols (D : DT) : List Col := .i .i64 D.kd :: .i .i64 D.nn :: D.r.cols
structure TY where
  R : Nat → RT
  X : Nat → Nat
  N : Int
  m : Nat
  f : Nat → ByteArray
  par : ByteArray
  A : RT
def tMv : List Nat := [4, 5, 6, 7, 8, 9, 10, 11, 12, 13, 14, 15, 16, 17, 18, 19]
def tB (D : DT) (y : TY) (w : List Blk) : List Blk := .tab false D.n D.cols :: (poolO 1 y.R y.X y.N ++ (.tab true y.m [.s y.f] :: .tab true y.A.n y.A.cols :: w))
def tE (D : DT) (p : Nat) (most : Int) (y : TY) : Env := [(8, .v (.string y.par)), (7, .slc 21 0 y.A.n y.A.n 6), (6, .slc 20 0 y.m y.m 1), (5, .ptr 1 0), (1, .v (.int .i64 most)), (0, .slc 0 0 D.n p 8)]
def tH (D : DT) (p : Nat) (most : Int) (i : Int) (y : TY) : St := ⟨(9, .v (.int .i64 i)) :: tE D p most y, 162, tB D y [], tMv, 1⟩
def t10 (D : DT) (p : Nat) (most : Int) (i : Int) (c s k e : Int) (n b : ByteArray) (y : TY) : St := ⟨(10, .ptr 22 0) :: (9, .v (.int .i64 i)) :: tE D p most y, 162, tB D y [.cells true (rq c s k e n b)], tMv, 1⟩
def t11 (D : DT) (p : Nat) (most : Int) (i : Int) (L : RT) (h : Int) (par : ByteArray) (y : TY) : St := ⟨(11, .ptr 24 0) :: (9, .v (.int .i64 i)) :: tE D p most y, 162, tB D y [.dead, .tab true L.n L.cols, .cells true [.v (.int .i64 h), .v (.string par), .slc 23 0 L.n L.n 6]], tMv, 1⟩
def t12 (D : DT) (p : Nat) (most : Int) (i : Int) (L : RT) (h : Int) (par : ByteArray) (s : ByteArray) (y : TY) : St := ⟨(12, .v (.string s)) :: (t11 D p most i L h par y).env, 162, (t11 D p most i L h par y).tbl, tMv, 1⟩
def t13 (D : DT) (p : Nat) (most : Int) (i : Int) (L : RT) (h : Int) (par : ByteArray) (s : ByteArray) (e : Int) (y : TY) : St := ⟨(13, .v (.int .i64 e)) :: (t12 D p most i L h par s y).env, 162, (t11 D p most i L h par y).tbl, tMv, 1⟩
def t14 (D : DT) (p : Nat) (most : Int) (i : Int) (L : RT) (h : Int) (par : ByteArray) (z : Int) (y : TY) : St := ⟨(14, .v (.int .i64 z)) :: (t11 D p most i L h par y).env, 162, (t11 D p most i L h par y).tbl, tMv, 1⟩
def tbS : Specs := [(4, closedS), (5, newPoolS), (6, firstS), (7, putL), (8, pickL), (9, encS), (10, shaS), (11, doneL), (12, chainG)]
def tA (D : DT) (p : Nat) (most : Int) : St := ⟨[(1, .v (.int .i64 most)), (0, .slc 0 0 D.n p 8)], 162, [.tab false D.n D.cols], tMv, 1⟩
def tA3 (D : DT) (p : Nat) (most : Int) : St := ⟨(5, .ptr 1 0) :: (tA D p most).env, 162, .tab false D.n D.cols :: poolO 1 R0 X0 0, tMv, 1⟩
def tA4 (D : DT) (p : Nat) (most : Int) : St := ⟨(6, .v (.slice none 0 0)) :: (tA3 D p most).env, 162, .tab false D.n D.cols :: poolO 1 R0 X0 0, tMv, 1⟩
def tA5 (D : DT) (p : Nat) (most : Int) : St := ⟨(7, .v (.slice none 0 0)) :: (tA4 D p most).env, 162, .tab false D.n D.cols :: poolO 1 R0 X0 0, tMv, 1⟩
def tA6 (D : DT) (p : Nat) (most : Int) : St := ⟨(8, .v (.string firstB)) :: (tA5 D p most).env, 162, .tab false D.n D.cols :: poolO 1 R0 X0 0, tMv, 1⟩
def tK (D : DT) (p : Nat) (most : Int) (a : Int) (y : TY) : St := ⟨(15, .v (.int .i64 a)) :: tE D p most y, 162, tB D y [], tMv, 1⟩
def tM (D : DT) (p : Nat) (most : Int) (a j : Int) (y : TY) : St := ⟨(16, .v (.int .i64 j)) :: (15, .v (.int .i64 a)) :: tE D p most y, 162, tB D y [], tMv, 1⟩
def tZ (D : DT) (p : Nat) (most : Int) (u v : Int) (y : TY) : St := ⟨(18, .v (.int .i64 v)) :: (17, .v (.int .i64 u)) :: tE D p most y, 162, tB D y [], tMv, 1⟩

end Go.Proofs.YtmnenigmkfnciaaGreatDoor.Sx
/- TopBlocks: its code's leaves. No condition. -/
namespace Go.Proofs.YtmnenigmkfnciaaGreatDoor.Sx
open Go Go.Proofs
set_option maxRecDepth 100000
set_option linter.unusedSimpArgs false
set_option linter.unusedVariables false

def rT : St → Prop := fun st => look st.env 4 = some (.v (.bool true))
def L1 : List Nat := [1, 2, 3, 4, 5, 6, 7, 8, 9, 10, 11, 12, 13, 14, 15, 16, 17, 18, 19]
def tbF (c : Code) : Code := sL (sR (sR (sR (sR (sR (sR c))))))
def tb1 (c : Code) : Code := bB (sL (sR (bB (sR (tbF c)))))
/-- The table with the pool told in other words. -/
def tW (D : DT) (pool : List Blk) (y : TY) (w : List Blk) : List Blk := .tab false D.n D.cols :: (pool ++ (.tab true y.m [.s y.f] :: .tab true y.A.n y.A.cols :: w))
section
variable (D : DT) (p : Nat) (most i : Int) (c s k e : Int) (n b : ByteArray) (L : RT) (h : Int) (par t : ByteArray) (z : Int) (y y' : TY) (G : TY → Prop) (G2 : RT → TY → Prop) (D0 : Prop) (Z : St → Prop) (id : Nat)
theorem w10 : vc Tryz.prog tbS noI (sL (tb1 (bodyOf Tryz.f3))) (tH D p most i y) (pr (fun st' => stL st' (t10 D p most i (D.r.c (0 + i.toNat)) (D.r.s (0 + i.toNat)) (D.r.k (0 + i.toNat)) (D.r.e (0 + i.toNat)) (D.r.nm (0 + i.toNat)) (D.r.b (0 + i.toNat)) y)) Z id rT) =
    ob (decide (0 ≤ i) && decide (i < (D.n : Int))) (ob true (ob (decide (0 + i.toNat < D.n)) (stL (t10 D p most i (D.r.c (0 + i.toNat)) (D.r.s (0 + i.toNat)) (D.r.k (0 + i.toNat)) (D.r.e (0 + i.toNat)) (D.r.nm (0 + i.toNat)) (D.r.b (0 + i.toNat)) y) (t10 D p most i (D.r.c (0 + i.toNat)) (D.r.s (0 + i.toNat)) (D.r.k (0 + i.toNat)) (D.r.e (0 + i.toNat)) (D.r.nm (0 + i.toNat)) (D.r.b (0 + i.toNat)) y)))) := by kernel_rfl
theorem w11 : vc Tryz.prog tbS noI (sL (sR (tb1 (bodyOf Tryz.f3)))) (t10 D p most i c s k e n b y) (pr (fun st' => D0 ∧ stL st' (t10 D p most i c s k e n b y)) Z id rT) =
    bc (decide ((n.size : Int) > 100)) (some (SV.v (.bool true)) = some (SV.v (.bool true))) (bc (bif false then true else decide ((b.size : Int) > 400)) (some (SV.v (.bool true)) = some (SV.v (.bool true))) (D0 ∧ stL (t10 D p most i c s k e n b y) (t10 D p most i c s k e n b y))) := by kernel_rfl
theorem w13 : vc Tryz.prog tbS noI (sL (sR (sR (tb1 (bodyOf Tryz.f3))))) (t10 D p most i c s k e n b y) (pr (fun st' => ∃ y' : TY, G y' ∧ stL st' (t10 D p most i c s k e n b y')) Z id rT) =
    ∃ (R : Nat → RT) (X : Nat → Nat) (N : Int), inPool (poolV 1 L1 y.R y.X y.N) R X N ∧ okP R X ∧ ob ((decide (-1000000 ≤ N) && decide (N ≤ 1000000)) && decide (n.size + b.size ≤ 500))
      ((∀ z : Int, z ≠ 0 → ∃ y' : TY, G y' ∧ stL ⟨(t10 D p most i c s k e n b y).env, 162, tW D (poolW 1 L1 23 R X N) y [.cells true (rq c s k e n b)], tMv, 1⟩ (t10 D p most i c s k e n b y')) ∧
       (((X c.toNat : Nat) : Int) ≤ s → b.size ≤ 400 ∧ ∀ R' : Nat → RT, okP R' X → ∃ y' : TY, G y' ∧ stL ⟨(t10 D p most i c s k e n b y).env, 162, tW D (poolW 1 L1 23 R' X (N + 1)) y [.cells true (rq c s k e n b)], tMv, 1⟩ (t10 D p most i c s k e n b y'))) := by kernel_rfl
theorem w14 : vc Tryz.prog tbS noI (sL (sR (sR (sR (tb1 (bodyOf Tryz.f3)))))) (t10 D p most i c s k e n b y) (pr (fun st' => D0 ∧ stL st' (t10 D p most i c s k e n b y)) (fun st' => stL st' (tH D p most i y)) 1 rT) =
    ob (decide (0 ≤ i) && decide (i < (D.n : Int))) (ob true (ob (decide (0 + i.toNat < D.n)) (bc (D.kd (0 + i.toNat) != 2) (Nat.beq 1 1 = true ∧ stL (tH D p most i y) (tH D p most i y)) (bc (bif false then true else decide ((y.m : Int) > 50)) (Nat.beq 1 1 = true ∧ stL (tH D p most i y) (tH D p most i y)) (D0 ∧ stL (t10 D p most i c s k e n b y) (t10 D p most i c s k e n b y)))))) := by kernel_rfl
theorem w15 : vc Tryz.prog tbS noI (sL (sR (sR (sR (sR (tb1 (bodyOf Tryz.f3))))))) (t10 D p most i c s k e n b y) (pr (fun st' => ∃ (L : RT) (y' : TY), G2 L y' ∧ stL st' (t11 D p most i L (y.m : Int) y.par y')) Z id rT) =
    ∃ (R : Nat → RT) (X : Nat → Nat) (N : Int), inPool (poolV 1 L1 y.R y.X y.N) R X N ∧ okP R X ∧ ob (decide (0 ≤ most) && decide (most ≤ 8)) (∀ L : RT, PickOK R L → L.n ≤ most.toNat → ∃ (L' : RT) (y' : TY), G2 L' y' ∧
      stL ⟨(t11 D p most i L (y.m : Int) y.par y).env, 162, tW D (poolW 1 L1 23 R X N) y [.cells true (rq c s k e n b), .tab true L.n L.cols, .cells true [.v (.int .i64 (y.m : Int)), .v (.string y.par), .slc 23 0 L.n L.n 6]], tMv, 1⟩ (t11 D p most i L' (y.m : Int) y.par y')) := by kernel_rfl
theorem w16 : vc Tryz.prog tbS noI (sL (sR (sR (sR (sR (sR (tb1 (bodyOf Tryz.f3)))))))) (t11 D p most i L h par y) (pr (fun st' => stL st' (t13 D p most i L h par (encB h par L) 0 y)) Z id rT) =
    (apartR L.n L.c L.s ∧ allOKR L.n L.c L.s L.k L.e L.nm L.b ∧ smallR L.n L.nm L.b ∧ ob ((Nat.beq L.n L.n && Nat.ble L.n L.n) && (decide (L.n ≤ 8) && ((decide (0 ≤ h) && decide (h ≤ 64)) && (par.size == 32)))) (stL (t13 D p most i L h par (encB h par L) 0 y) (t13 D p most i L h par (encB h par L) 0 y))) := by kernel_rfl
theorem w17 : vc Tryz.prog tbS noI (sL (sR (sR (sR (sR (sR (sR (tb1 (bodyOf Tryz.f3))))))))) (t13 D p most i L h par t z y) (pr (fun st' => stL st' (t12 D p most i L h par t y)) Z id rT) =
    bc (z != 0) (some (SV.v (.bool false)) = some (SV.v (.bool true))) (stL (t12 D p most i L h par t y) (t12 D p most i L h par t y)) := by kernel_rfl
def yC (y : TY) (t : ByteArray) : TY := ⟨y.R, y.X, y.N, y.m + 1, upF y.f y.m t, y.par, y.A⟩
def yP (y : TY) (t : ByteArray) : TY := ⟨y.R, y.X, y.N, y.m, y.f, t, y.A⟩
def yA (y : TY) (L : RT) : TY := ⟨y.R, y.X, y.N, y.m, y.f, y.par, y.A.cat L⟩
def poolU (o j : Nat) (R : Nat → RT) (X : Nat → Nat) (N : Int) : List Blk := poolK o (.c .i64 c16L (hasQ R X)) (.c .i64 c16L (hasX X)) (fun v => SV.purge [j] (gPoolO o R v)) (gNext X) R N
theorem w19 : vc Tryz.prog tbS noI (sL (sR (sR (sR (sR (sR (sR (sR (tb1 (bodyOf Tryz.f3)))))))))) (t12 D p most i L h par t y) (pr (fun st' => stL st' (t12 D p most i L h par t (yC y t))) Z id rT) =
    ob true (ob (Nat.beq (y.m * 1) (y.m * 1)) (ob (decide ((y.m + 1) * 16 ≤ 140737488355328)) (stL ⟨(t12 D p most i L h par t (yC y t)).env, 162, tW D (poolU 1 20 y.R y.X y.N) (yC y t) [.dead, .tab true L.n L.cols, .cells true [.v (.int .i64 h), .v (.string par), .slc 23 0 L.n L.n 6]], tMv, 1⟩ (t12 D p most i L h par t (yC y t))))) := by kernel_rfl
theorem w20 : vc Tryz.prog tbS noI (sL (sR (sR (sR (sR (sR (sR (sR (sR (tb1 (bodyOf Tryz.f3))))))))))) (t12 D p most i L h par t y) (pr (fun st' => stL st' (t11 D p most i L h par (yP y (shaD t)))) Z id rT) =
    ob (decide (t.size ≤ 1000000)) (stL (t11 D p most i L h par (yP y (shaD t))) (t11 D p most i L h par (yP y (shaD t)))) := by kernel_rfl
def L1x : List Nat := [1, 23, 2, 3, 4, 5, 6, 7, 8, 9, 10, 11, 12, 13, 14, 15, 16, 17, 18, 19]
def donV (R : Nat → RT) (X : Nat → Nat) (N : Int) (L : RT) : List Blk := donK (.c .i64 c16L (hasQ R X)) (.c .i64 c16L (hasX X)) (fun v => SV.ren (pos L1x) (gPoolO 1 R v)) (gNext X) R N L
def poolD (R : Nat → RT) (X : Nat → Nat) (N : Int) : List Blk := poolK 1 (.c .i64 c16L (hasQ R X)) (.c .i64 c16L (hasX X)) (fun v => SV.ren (back L1x 25) (gPoolO 1 R v)) (gNext X) R N
theorem w21 : vc Tryz.prog tbS noI (sL (sR (sR (sR (sR (sR (sR (sR (sR (sR (tb1 (bodyOf Tryz.f3)))))))))))) (t11 D p most i L h par y) (pr (fun st' => ∃ y' : TY, G y' ∧ stL st' (t14 D p most i L h par (L.n : Int) y')) Z id rT) =
    ∃ (R : Nat → RT) (X : Nat → Nat) (N : Int) (L' : RT), inPoolL (donV y.R y.X y.N L) R X N L' ∧ okP R X ∧ PickOK R L' ∧ ob ((Nat.beq L'.n L.n && Nat.ble L.n L.n) && ((decide (-900000 ≤ N) && decide (N ≤ 1000000)) && decide (L.n ≤ 8)))
      (∀ (R' : Nat → RT) (X' : Nat → Nat), dnI R X L' L'.n R' X' → ∃ y' : TY, G y' ∧
        stL ⟨(14, .v (.int .i64 (L'.n : Int))) :: (t11 D p most i L h par y).env, 162, tW D (poolD R' X' (N - (L'.n : Nat))) y [.dead, .tab true L'.n L'.cols, .cells true [.v (.int .i64 h), .v (.string par), .slc 23 0 L.n L.n 6]], tMv, 1⟩ (t14 D p most i L h par (L.n : Int) y')) := by kernel_rfl
theorem w22 : vc Tryz.prog tbS noI (sL (sR (sR (sR (sR (sR (sR (sR (sR (sR (sR (tb1 (bodyOf Tryz.f3))))))))))))) (t14 D p most i L h par z y) (pr (fun st' => stL st' (t11 D p most i L h par y)) Z id rT) =
    bc (decide (z < (L.n : Int))) (some (SV.v (.bool false)) = some (SV.v (.bool true))) (stL (t11 D p most i L h par y) (t11 D p most i L h par y)) := by kernel_rfl
theorem w24 : vc Tryz.prog tbS noI (sR (sR (sR (sR (sR (sR (sR (sR (sR (sR (sR (tb1 (bodyOf Tryz.f3))))))))))))) (t11 D p most i L h par y) (pr (fun st' => stL st' (tH D p most i (yA y L))) Z id rT) =
    ob (true && Nat.ble (0 + L.n) L.n) (ob (Nat.beq (y.A.n * 6) (y.A.n * 6)) (ob (decide ((y.A.n + L.n) * 64 ≤ 140737488355328)) (stL ⟨(tH D p most i (yA y L)).env, 162, tW D (poolU 1 21 y.R y.X y.N) (yA y L) [], tMv, 1⟩ (tH D p most i (yA y L))))) := by kernel_rfl
end

end Go.Proofs.YtmnenigmkfnciaaGreatDoor.Sx
/- TopBlocks: its code's leaves ahead of its loop and behind it. No condition. -/
namespace Go.Proofs.YtmnenigmkfnciaaGreatDoor.Sx
open Go Go.Proofs
set_option maxRecDepth 100000
set_option linter.unusedSimpArgs false
set_option linter.unusedVariables false

def tbG (c : Code) : Code := sL (sR (sR (sR (sR (sR (sR (sR c)))))))
def tb3 (c : Code) : Code := bB (sL (sR (bB (sR (tbG c)))))
def tb5 (c : Code) : Code := bB (sL (sR (bB (sR (sL (tb3 c))))))
def y0 : TY := ⟨R0, X0, 0, 0, fun _ => bstr [], firstB, emR⟩
section
variable (D : DT) (p : Nat) (most i a j u v : Int) (y y' : TY) (G : TY → Prop) (D0 : Prop) (Z : St → Prop) (id : Nat)
theorem u0 : vc Tryz.prog tbS noI (sL (bodyOf Tryz.f3)) ⟨[(0, .slc 0 0 D.n p 8), (1, .v (.int .i64 most))], 162, [.tab false D.n D.cols], [], 1⟩ (pr (fun st' => stL st' (tA D p most)) nope 0 rT) = stL (tA D p most) (tA D p most) := by kernel_rfl
theorem u1 : vc Tryz.prog tbS noI (sL (sR (bodyOf Tryz.f3))) (tA D p most) (pr (fun st' => D0 ∧ stL st' (tA D p most)) nope 0 rT) = bc (decide ((D.n : Int) > 100)) (some (SV.v (.bool true)) = some (SV.v (.bool true))) (bc (bif false then true else decide (most < 1)) (some (SV.v (.bool true)) = some (SV.v (.bool true))) (bc (bif false then true else decide (most > 8)) (some (SV.v (.bool true)) = some (SV.v (.bool true))) (D0 ∧ stL (tA D p most) (tA D p most)))) := by kernel_rfl
theorem u3 : vc Tryz.prog tbS noI (sL (sR (sR (bodyOf Tryz.f3)))) (tA D p most) (pr (fun st' => stL st' (tA3 D p most)) nope 0 rT) = stL ⟨(tA3 D p most).env, 162, .tab false D.n D.cols :: poolW 1 [] 1 R0 X0 0, tMv, 1⟩ (tA3 D p most) := by kernel_rfl
theorem u4 : vc Tryz.prog tbS noI (sL (sR (sR (sR (bodyOf Tryz.f3))))) (tA3 D p most) (pr (fun st' => stL st' (tA4 D p most)) nope 0 rT) = stL (tA4 D p most) (tA4 D p most) := by kernel_rfl
theorem u5 : vc Tryz.prog tbS noI (sL (sR (sR (sR (sR (bodyOf Tryz.f3)))))) (tA4 D p most) (pr (fun st' => stL st' (tA5 D p most)) nope 0 rT) = stL (tA5 D p most) (tA5 D p most) := by kernel_rfl
theorem u6 : vc Tryz.prog tbS noI (sL (sR (sR (sR (sR (sR (bodyOf Tryz.f3))))))) (tA5 D p most) (pr (fun st' => stL st' (tA6 D p most)) nope 0 rT) = stL (tA6 D p most) (tA6 D p most) := by kernel_rfl
theorem u7 : vc Tryz.prog tbS noI (sL (tbF (bodyOf Tryz.f3))) (tA6 D p most) (pr (fun st' => stL st' (tH D p most 0 y0)) nope 0 rT) = stL ⟨(9, .v (.int .i64 0)) :: (tA6 D p most).env, 162, (tA6 D p most).tbl, tMv, 1⟩ (tH D p most 0 y0) := by kernel_rfl
theorem uH : vc Tryz.prog tbS noI (sL (bB (sR (tbF (bodyOf Tryz.f3))))) (tH D p most i y) (pr (fun st' => i < (D.n : Int) ∧ stL st' (tH D p most i y)) (fun st' => stL st' (tH D p most i y)) 0 rT) = bc (decide (i < (D.n : Int))) (i < (D.n : Int) ∧ stL (tH D p most i y) (tH D p most i y)) (Nat.beq 0 0 = true ∧ stL (tH D p most i y) (tH D p most i y)) := by kernel_rfl
theorem u9 : vc Tryz.prog tbS noI (sR (sR (bB (sR (tbF (bodyOf Tryz.f3)))))) (tH D p most i y) (pr (fun st' => stL st' (tH D p most a y')) Z id rT) = stL (tH D p most (IntKind.i64.wrap (i + 1)) y) (tH D p most a y') := by kernel_rfl
theorem u25 : vc Tryz.prog tbS noI (sL (tbG (bodyOf Tryz.f3))) (tH D p most i y) (pr (fun st' => stL st' (tK D p most 0 y)) nope 0 rT) = stL (tK D p most 0 y) (tK D p most 0 y) := by kernel_rfl
theorem u26 : vc Tryz.prog tbS noI (sL (bB (sR (tbG (bodyOf Tryz.f3))))) (tK D p most a y) (pr (fun st' => a < (y.A.n : Int) ∧ stL st' (tK D p most a y)) (fun st' => stL st' (tK D p most a y)) 2 rT) = bc (decide (a < (y.A.n : Int))) (a < (y.A.n : Int) ∧ stL (tK D p most a y) (tK D p most a y)) (Nat.beq 2 2 = true ∧ stL (tK D p most a y) (tK D p most a y)) := by kernel_rfl
theorem u28 : vc Tryz.prog tbS noI (sL (sL (tb3 (bodyOf Tryz.f3)))) (tK D p most a y) (pr (fun st' => stL st' (tM D p most a 0 y)) Z id rT) = stL (tM D p most a 0 y) (tM D p most a 0 y) := by kernel_rfl
theorem u29 : vc Tryz.prog tbS noI (sL (bB (sR (sL (tb3 (bodyOf Tryz.f3)))))) (tM D p most a j y) (pr (fun st' => j < a ∧ stL st' (tM D p most a j y)) (fun st' => stL st' (tK D p most a y)) 4 rT) = bc (decide (j < a)) (j < a ∧ stL (tM D p most a j y) (tM D p most a j y)) (Nat.beq 4 4 = true ∧ stL (tK D p most a y) (tK D p most a y)) := by kernel_rfl
theorem u31 : vc Tryz.prog tbS noI (tb5 (bodyOf Tryz.f3)) (tM D p most a j y) (pr (fun st' => stL st' (tM D p most a j y)) Z id rT) = ob (decide (0 ≤ a) && decide (a < (y.A.n : Int))) (ob true (ob (decide (0 + a.toNat < y.A.n)) (ob (decide (0 ≤ j) && decide (j < (y.A.n : Int))) (ob true (ob (decide (0 + j.toNat < y.A.n)) (bc (y.A.c (0 + a.toNat) == y.A.c (0 + j.toNat)) (ob (decide (0 ≤ a) && decide (a < (y.A.n : Int))) (ob true (ob (decide (0 + a.toNat < y.A.n)) (ob (decide (0 ≤ j) && decide (j < (y.A.n : Int))) (ob true (ob (decide (0 + j.toNat < y.A.n)) (bc (bif true then y.A.s (0 + a.toNat) == y.A.s (0 + j.toNat) else false) (some (SV.v (.bool false)) = some (SV.v (.bool true))) (stL (tM D p most a j y) (tM D p most a j y))))))))) (stL (tM D p most a j y) (tM D p most a j y)))))))) := by kernel_rfl
theorem u30 : vc Tryz.prog tbS noI (sR (sR (bB (sR (sL (tb3 (bodyOf Tryz.f3))))))) (tM D p most a j y) (pr (fun st' => stL st' (tM D p most a u y)) Z id rT) = stL (tM D p most a (IntKind.i64.wrap (j + 1)) y) (tM D p most a u y) := by kernel_rfl
theorem u33 : vc Tryz.prog tbS noI (sR (tb3 (bodyOf Tryz.f3))) (tK D p most a y) (pr (fun st' => ∃ y' : TY, G y' ∧ stL st' (tK D p most a y')) Z id rT) = ob (decide (0 ≤ a) && decide (a < (y.A.n : Int))) (ob true (ob (decide (0 + a.toNat < y.A.n)) (∃ (R : Nat → RT) (X : Nat → Nat) (N : Int), inPool (poolV 1 L1 y.R y.X y.N) R X N ∧ okP R X ∧ ob ((decide (-1000000 ≤ N) && decide (N ≤ 1000000)) && decide ((y.A.nm (0 + a.toNat)).size + (y.A.b (0 + a.toNat)).size ≤ 500)) ((∀ z : Int, z ≠ 0 → bc (z == 0) (some (SV.v (.bool false)) = some (SV.v (.bool true))) (∃ y' : TY, G y' ∧ stL ⟨(tK D p most a y).env, 162, tW D (poolW 1 L1 22 R X N) y [], tMv, 1⟩ (tK D p most a y'))) ∧ (((X (y.A.c (0 + a.toNat)).toNat : Nat) : Int) ≤ y.A.s (0 + a.toNat) → (y.A.b (0 + a.toNat)).size ≤ 400 ∧ ∀ R' : Nat → RT, okP R' X → bc ((0 : Int) == 0) (some (SV.v (.bool false)) = some (SV.v (.bool true))) (∃ y' : TY, G y' ∧ stL ⟨(tK D p most a y).env, 162, tW D (poolW 1 L1 22 R' X (N + 1)) y [], tMv, 1⟩ (tK D p most a y'))))))) := by kernel_rfl
theorem u27 : vc Tryz.prog tbS noI (sR (sR (bB (sR (tbG (bodyOf Tryz.f3)))))) (tK D p most a y) (pr (fun st' => stL st' (tK D p most u y')) Z id rT) = stL (tK D p most (IntKind.i64.wrap (a + 1)) y) (tK D p most u y') := by kernel_rfl
theorem u35 : vc Tryz.prog tbS noI (sL (sR (sR (sR (sR (sR (sR (sR (sR (bodyOf Tryz.f3)))))))))) (tK D p most a y) (pr (fun st' => stL st' (tZ D p most (y.m : Int) 0 y)) nope 0 rT) = (goodC y.f y.m ∧ ob ((Nat.beq y.m y.m && Nat.ble y.m y.m) && decide (y.m ≤ 64)) (stL (tZ D p most (y.m : Int) 0 y) (tZ D p most (y.m : Int) 0 y))) := by kernel_rfl
theorem u36 : vc Tryz.prog tbS noI (sR (sR (sR (sR (sR (sR (sR (sR (sR (bodyOf Tryz.f3)))))))))) (tZ D p most u v y) (pr nope nope 0 rT) = bc (u == (y.m : Int)) (bc (bif true then v == 0 else false) (some (SV.v (.bool true)) = some (SV.v (.bool true))) (some (SV.v (.bool false)) = some (SV.v (.bool true)))) (some (SV.v (.bool false)) = some (SV.v (.bool true))) := by kernel_rfl
end

end Go.Proofs.YtmnenigmkfnciaaGreatDoor.Sx
/- TopBlocks: its states, told in other words. No condition. -/
namespace Go.Proofs.YtmnenigmkfnciaaGreatDoor.Sx
open Go Go.Proofs
set_option maxRecDepth 100000
set_option linter.unusedSimpArgs false
set_option linter.unusedVariables false

theorem stL_env {E : Env} {nt n0 : Nat} {t t' : List Blk} {mv : List Nat} (hn : nodupB (E.map Prod.fst) = true) (he : envOk E)
    (hb : ((Nat.beq nt nt && Nat.beq n0 n0) && (Nat.ble n0 t'.length && (subB mv mv && (envLt t'.length E && tblLt t'.length t')))) = true) (ht : tblLeK t t' True) : stL ⟨E, nt, t, mv, n0⟩ ⟨E, nt, t', mv, n0⟩ :=
  stL_of hb (fun K hK => envLeK_of E E K (fun q hq => ⟨look_of hn hq, envOk_mem he hq⟩) hK) ht
def yR (y : TY) (R : Nat → RT) (X : Nat → Nat) (N : Int) : TY := ⟨R, X, N, y.m, y.f, y.par, y.A⟩
section
variable {D : DT} {p : Nat}
theorem tB_ok (y : TY) {w : List Blk} (hw : okST w) : okST (tB D y w) := ⟨trivial, okST_app (poolO_ok 1 y.R y.X y.N) ⟨trivial, trivial, hw⟩⟩
theorem tE_ok (hp : D.n ≤ p) (most : Int) (y : TY) : envOk (tE D p most y) := ⟨trivial, Nat.le_refl _, Nat.le_refl _, trivial, trivial, hp, trivial⟩
theorem tH_self (hp : D.n ≤ p) (most : Int) (i : Int) (y : TY) : stL (tH D p most i y) (tH D p most i y) := stL_self _ (by kernel_rfl) ⟨trivial, tE_ok hp most y⟩ (tB_ok y trivial)
theorem t10_self (hp : D.n ≤ p) (most : Int) (i c s k e : Int) (n b : ByteArray) (y : TY) : stL (t10 D p most i c s k e n b y) (t10 D p most i c s k e n b y) := stL_self _ (by kernel_rfl) ⟨trivial, trivial, tE_ok hp most y⟩ (tB_ok y ⟨⟨trivial, trivial, trivial, trivial, trivial, trivial, trivial⟩, trivial⟩)
theorem w3_ok (L : RT) (h : Int) (par : ByteArray) : okST [.dead, .tab true L.n L.cols, .cells true [.v (.int .i64 h), .v (.string par), .slc 23 0 L.n L.n 6]] := ⟨trivial, trivial, ⟨trivial, trivial, Nat.le_refl _, trivial⟩, trivial⟩
theorem t11_self (hp : D.n ≤ p) (most : Int) (i : Int) (L : RT) (h : Int) (par : ByteArray) (y : TY) : stL (t11 D p most i L h par y) (t11 D p most i L h par y) := stL_self _ (by kernel_rfl) ⟨trivial, trivial, tE_ok hp most y⟩ (tB_ok y (w3_ok L h par))
theorem t12_self (hp : D.n ≤ p) (most : Int) (i : Int) (L : RT) (h : Int) (par s : ByteArray) (y : TY) : stL (t12 D p most i L h par s y) (t12 D p most i L h par s y) := stL_self _ (by kernel_rfl) ⟨trivial, trivial, trivial, tE_ok hp most y⟩ (tB_ok y (w3_ok L h par))
theorem t13_self (hp : D.n ≤ p) (most : Int) (i : Int) (L : RT) (h : Int) (par s : ByteArray) (e : Int) (y : TY) : stL (t13 D p most i L h par s e y) (t13 D p most i L h par s e y) := stL_self _ (by kernel_rfl) ⟨trivial, trivial, trivial, trivial, tE_ok hp most y⟩ (tB_ok y (w3_ok L h par))
theorem tK_self (hp : D.n ≤ p) (most : Int) (a : Int) (y : TY) : stL (tK D p most a y) (tK D p most a y) := stL_self _ (by kernel_rfl) ⟨trivial, tE_ok hp most y⟩ (tB_ok y trivial)
theorem tM_self (hp : D.n ≤ p) (most : Int) (a j : Int) (y : TY) : stL (tM D p most a j y) (tM D p most a j y) := stL_self _ (by kernel_rfl) ⟨trivial, trivial, tE_ok hp most y⟩ (tB_ok y trivial)
theorem tZ_self (hp : D.n ≤ p) (most : Int) (u v : Int) (y : TY) : stL (tZ D p most u v y) (tZ D p most u v y) := stL_self _ (by kernel_rfl) ⟨trivial, trivial, tE_ok hp most y⟩ (tB_ok y trivial)
theorem tA_self (hp : D.n ≤ p) (most : Int) : stL (tA D p most) (tA D p most) := stL_self _ (by kernel_rfl) ⟨trivial, hp, trivial⟩ ⟨trivial, trivial⟩
theorem tA4_self (hp : D.n ≤ p) (most : Int) : stL (tA4 D p most) (tA4 D p most) := stL_self _ (by kernel_rfl) ⟨trivial, trivial, trivial, hp, trivial⟩ ⟨trivial, poolO_ok 1 R0 X0 0⟩
theorem tA5_self (hp : D.n ≤ p) (most : Int) : stL (tA5 D p most) (tA5 D p most) := stL_self _ (by kernel_rfl) ⟨trivial, trivial, trivial, trivial, hp, trivial⟩ ⟨trivial, poolO_ok 1 R0 X0 0⟩
theorem tA6_self (hp : D.n ≤ p) (most : Int) : stL (tA6 D p most) (tA6 D p most) := stL_self _ (by kernel_rfl) ⟨trivial, trivial, trivial, trivial, trivial, hp, trivial⟩ ⟨trivial, poolO_ok 1 R0 X0 0⟩
/- The pool, told in other words. -/
def poolF (h : Value → SV) (R : Nat → RT) (X : Nat → Nat) (N : Int) : List Blk := poolK 1 (.c .i64 c16L (hasQ R X)) (.c .i64 c16L (hasX X)) h (gNext X) R N
theorem tW_le (h : Value → SV) (R : Nat → RT) (X : Nat → Nat) (N : Int) (hh : ∀ y ∈ c16L, SV.le (h (.int .i64 y)) (gPoolO 1 R (.int .i64 y))) (y : TY) {w w' : List Blk} (hw : tblLeK w w' True) : tblLeK (tW D (poolF h R X N) y w) (tB D (yR y R X N) w') True := by
  refine blkLeK_self (.tab false D.n D.cols) _ trivial ?_
  refine poolK_le (o := 1) (h := h) (k := gNext X) (ksR_self _) (ksR_self _) hh (fun _ _ => rfl) ?_
  exact blkLeK_self (.tab true y.m [.s y.f]) _ trivial (blkLeK_self (.tab true y.A.n y.A.cols) _ trivial hw)
theorem hW (n : Nat) (hn : n = 23 ∨ n = 22) (R : Nat → RT) : ∀ y ∈ c16L, SV.le (SV.ren (back L1 n) (gPool R (.int .i64 y))) (gPoolO 1 R (.int .i64 y)) := by
  rcases hn with rfl | rfl
  · exact cl16 ⟨slc_le _ _, slc_le _ _, slc_le _ _, slc_le _ _, slc_le _ _, slc_le _ _, slc_le _ _, slc_le _ _, slc_le _ _, slc_le _ _, slc_le _ _, slc_le _ _, slc_le _ _, slc_le _ _, slc_le _ _, slc_le _ _⟩
  · exact cl16 ⟨slc_le _ _, slc_le _ _, slc_le _ _, slc_le _ _, slc_le _ _, slc_le _ _, slc_le _ _, slc_le _ _, slc_le _ _, slc_le _ _, slc_le _ _, slc_le _ _, slc_le _ _, slc_le _ _, slc_le _ _, slc_le _ _⟩
theorem hD (R : Nat → RT) : ∀ y ∈ c16L, SV.le (SV.ren (back L1x 25) (gPoolO 1 R (.int .i64 y))) (gPoolO 1 R (.int .i64 y)) :=
  cl16 ⟨slc_le _ _, slc_le _ _, slc_le _ _, slc_le _ _, slc_le _ _, slc_le _ _, slc_le _ _, slc_le _ _, slc_le _ _, slc_le _ _, slc_le _ _, slc_le _ _, slc_le _ _, slc_le _ _, slc_le _ _, slc_le _ _⟩
theorem hU (j : Nat) (hj : j = 20 ∨ j = 21) (R : Nat → RT) : ∀ y ∈ c16L, SV.le (SV.purge [j] (gPoolO 1 R (.int .i64 y))) (gPoolO 1 R (.int .i64 y)) := by
  rcases hj with rfl | rfl
  · exact cl16 ⟨slc_le _ _, slc_le _ _, slc_le _ _, slc_le _ _, slc_le _ _, slc_le _ _, slc_le _ _, slc_le _ _, slc_le _ _, slc_le _ _, slc_le _ _, slc_le _ _, slc_le _ _, slc_le _ _, slc_le _ _, slc_le _ _⟩
  · exact cl16 ⟨slc_le _ _, slc_le _ _, slc_le _ _, slc_le _ _, slc_le _ _, slc_le _ _, slc_le _ _, slc_le _ _, slc_le _ _, slc_le _ _, slc_le _ _, slc_le _ _, slc_le _ _, slc_le _ _, slc_le _ _, slc_le _ _⟩
theorem h0W : ∀ y ∈ c16L, SV.le (SV.ren (back [] 1) (gPool R0 (.int .i64 y))) (gPoolO 1 R0 (.int .i64 y)) :=
  cl16 ⟨slc_le _ _, slc_le _ _, slc_le _ _, slc_le _ _, slc_le _ _, slc_le _ _, slc_le _ _, slc_le _ _, slc_le _ _, slc_le _ _, slc_le _ _, slc_le _ _, slc_le _ _, slc_le _ _, slc_le _ _, slc_le _ _⟩
theorem pV_in (R : Nat → RT) (X : Nat → Nat) (N : Int) : inPool (poolV 1 L1 R X N) R X N := inPool_of (h := fun v => SV.ren (pos L1) (gPoolO 1 R v)) (k := gNext X) (ksR_self _) (ksR_self _) (cl16 ⟨slc_le _ _, slc_le _ _, slc_le _ _, slc_le _ _, slc_le _ _, slc_le _ _, slc_le _ _, slc_le _ _, slc_le _ _, slc_le _ _, slc_le _ _, slc_le _ _, slc_le _ _, slc_le _ _, slc_le _ _, slc_le _ _⟩) (fun _ _ => rfl)
theorem dV_in (R : Nat → RT) (X : Nat → Nat) (N : Int) (L : RT) : inPoolL (donV R X N L) R X N L := by
  rw [inPoolL]
  refine ⟨?_, rfl⟩
  have := (tblLeK_le _ _ True (donK_le (h := fun v => SV.ren (pos L1x) (gPoolO 1 R v)) (k := gNext X) (L := L) (N := N) (ksR_self (hasQ R X)) (ksR_self (hasX X)) (cl16 ⟨slc_le _ _, slc_le _ _, slc_le _ _, slc_le _ _, slc_le _ _, slc_le _ _, slc_le _ _, slc_le _ _, slc_le _ _, slc_le _ _, slc_le _ _, slc_le _ _, slc_le _ _, slc_le _ _, slc_le _ _, slc_le _ _⟩) (fun _ _ => rfl) (m := []) (m' := []) trivial)).1
  rw [List.append_nil, List.append_nil] at this
  exact this
theorem t10_le (hp : D.n ≤ p) (most : Int) (R : Nat → RT) (X : Nat → Nat) (N : Int) (i c s k e : Int) (n b : ByteArray) (y : TY) : stL ⟨(t10 D p most i c s k e n b y).env, 162, tW D (poolW 1 L1 23 R X N) y [.cells true (rq c s k e n b)], tMv, 1⟩ (t10 D p most i c s k e n b (yR y R X N)) :=
  stL_env (by kernel_rfl) (show envOk ((10, .ptr 22 0) :: (9, .v (.int .i64 i)) :: tE D p most y) from ⟨trivial, trivial, tE_ok hp most y⟩) (by kernel_rfl) (tW_le _ R X N (hW 23 (.inl rfl) R) y (tblLeK_self _ _ ⟨⟨trivial, trivial, trivial, trivial, trivial, trivial, trivial⟩, trivial⟩ trivial))
theorem t11_le (hp : D.n ≤ p) (most : Int) (R : Nat → RT) (X : Nat → Nat) (N : Int) (i : Int) (c s k e : Int) (n b : ByteArray) (L : RT) (h : Int) (par : ByteArray) (y : TY) : stL ⟨(t11 D p most i L h par y).env, 162, tW D (poolW 1 L1 23 R X N) y [.cells true (rq c s k e n b), .tab true L.n L.cols, .cells true [.v (.int .i64 h), .v (.string par), .slc 23 0 L.n L.n 6]], tMv, 1⟩ (t11 D p most i L h par (yR y R X N)) := by
  refine stL_env (by kernel_rfl) (show envOk ((11, .ptr 24 0) :: (9, .v (.int .i64 i)) :: tE D p most y) from ⟨trivial, trivial, tE_ok hp most y⟩) (by kernel_rfl) (tW_le _ R X N (hW 23 (.inl rfl) R) y ?_)
  exact (tblLeK_self (.tab true L.n L.cols :: [.cells true [.v (.int .i64 h), .v (.string par), .slc 23 0 L.n L.n 6]]) _ ⟨trivial, ⟨trivial, trivial, Nat.le_refl _, trivial⟩, trivial⟩ trivial)
theorem t12_le (hp : D.n ≤ p) (most : Int) (i : Int) (L : RT) (h : Int) (par s : ByteArray) (y : TY) : stL ⟨(t12 D p most i L h par s y).env, 162, tW D (poolU 1 20 y.R y.X y.N) y [.dead, .tab true L.n L.cols, .cells true [.v (.int .i64 h), .v (.string par), .slc 23 0 L.n L.n 6]], tMv, 1⟩ (t12 D p most i L h par s y) :=
  stL_env (by kernel_rfl) (show envOk ((12, .v (.string s)) :: (11, .ptr 24 0) :: (9, .v (.int .i64 i)) :: tE D p most y) from ⟨trivial, trivial, trivial, tE_ok hp most y⟩) (by kernel_rfl) (tW_le _ y.R y.X y.N (hU 20 (.inl rfl) y.R) y (tblLeK_self _ _ (w3_ok L h par) trivial))
theorem t14_le (hp : D.n ≤ p) (most : Int) (R : Nat → RT) (X : Nat → Nat) (N : Int) (i : Int) (L : RT) (h : Int) (par : ByteArray) (z : Int) (y : TY) : stL ⟨(14, .v (.int .i64 z)) :: (t11 D p most i L h par y).env, 162, tW D (poolD R X N) y [.dead, .tab true L.n L.cols, .cells true [.v (.int .i64 h), .v (.string par), .slc 23 0 L.n L.n 6]], tMv, 1⟩ (t14 D p most i L h par z (yR y R X N)) :=
  stL_env (by kernel_rfl) (show envOk ((14, .v (.int .i64 z)) :: (11, .ptr 24 0) :: (9, .v (.int .i64 i)) :: tE D p most y) from ⟨trivial, trivial, trivial, tE_ok hp most y⟩) (by kernel_rfl) (tW_le _ R X N (hD R) y (tblLeK_self _ _ (w3_ok L h par) trivial))
theorem tH_le (hp : D.n ≤ p) (most : Int) (i : Int) (y : TY) : stL ⟨(tH D p most i y).env, 162, tW D (poolU 1 21 y.R y.X y.N) y [], tMv, 1⟩ (tH D p most i y) :=
  stL_env (by kernel_rfl) (show envOk ((9, .v (.int .i64 i)) :: tE D p most y) from ⟨trivial, tE_ok hp most y⟩) (by kernel_rfl) (tW_le _ y.R y.X y.N (hU 21 (.inr rfl) y.R) y trivial)
theorem tK_le (hp : D.n ≤ p) (most : Int) (R : Nat → RT) (X : Nat → Nat) (N : Int) (a : Int) (y : TY) : stL ⟨(tK D p most a y).env, 162, tW D (poolW 1 L1 22 R X N) y [], tMv, 1⟩ (tK D p most a (yR y R X N)) :=
  stL_env (by kernel_rfl) (show envOk ((15, .v (.int .i64 a)) :: tE D p most y) from ⟨trivial, tE_ok hp most y⟩) (by kernel_rfl) (tW_le _ R X N (hW 22 (.inr rfl) R) y trivial)
theorem tA3_le (hp : D.n ≤ p) (most : Int) : stL ⟨(tA3 D p most).env, 162, .tab false D.n D.cols :: poolW 1 [] 1 R0 X0 0, tMv, 1⟩ (tA3 D p most) := by
  refine stL_env (by kernel_rfl) (show envOk [(5, .ptr 1 0), (1, .v (.int .i64 most)), (0, .slc 0 0 D.n p 8)] from ⟨trivial, trivial, hp, trivial⟩) (by kernel_rfl) (blkLeK_self (.tab false D.n D.cols) _ trivial ?_)
  have := poolK_le (o := 1) (h := fun v => SV.ren (back [] 1) (gPool R0 v)) (k := gNext X0) (R := R0) (X := X0) (N := 0) (ksR_self _) (ksR_self _) h0W (fun _ _ => rfl) (m := []) (m' := []) (K := True) trivial
  rw [List.append_nil, List.append_nil] at this
  exact this
theorem tH0_le (hp : D.n ≤ p) (most : Int) : stL ⟨(9, .v (.int .i64 0)) :: (tA6 D p most).env, 162, (tA6 D p most).tbl, tMv, 1⟩ (tH D p most 0 y0) := by
  refine stL_of (by kernel_rfl) (fun K hK => ?_) (blkLeK_self (.tab false D.n D.cols) _ trivial ?_)
  · refine leK_self (.v (.int .i64 0)) _ trivial (leK_self (.v (.string firstB)) _ trivial ?_)
    refine (nil_le 21 6 _).mpr ?_
    refine (nil_le 20 1 _).mpr ?_
    exact leK_self (.ptr 1 0) _ trivial (leK_self (.v (.int .i64 most)) _ trivial (leK_self (.slc 0 0 D.n p 8) _ hp hK))
  · have := tblLeK_app (poolO 1 R0 X0 0) [] [.tab true 0 [.s fun _ => bstr []], .tab true 0 emR.cols] True (poolO_ok 1 R0 X0 0) ⟨ob_mk rfl trivial, ob_mk rfl trivial, trivial⟩
    rw [List.append_nil] at this
    exact this
end

end Go.Proofs.YtmnenigmkfnciaaGreatDoor.Sx
