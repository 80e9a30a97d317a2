/- TopBlocks: Pick and Done by contract. No condition. -/
import Derived.Test.YtmnenigmkfnciaaGreatDoorSx13
import Derived.Test.YtmnenigmkfnciaaGreatDoorProg
import Derived.Test.YtmnenigmkfnciaaGreatDoorBase
import Derived.Test.YtmnenigmkfnciaaGreatDoorMB
import Derived.Test.YtmnenigmkfnciaaGreatDoorMC
import Derived.Test.YtmnenigmkfnciaaGreatDoorMD
import Derived.Test.YtmnenigmkfnciaaGreatDoorME
import Derived.Test.YtmnenigmkfnciaaGreatDoorMF
/- pool: what a pool picks. No condition. -/
namespace Go.Proofs.YtmnenigmkfnciaaGreatDoor.Sx
open Go Go.Proofs
set_option maxRecDepth 100000
set_option linter.unusedSimpArgs false
set_option linter.unusedVariables false

def pkT (R : Nat → RT) (X : Nat → Nat) (N : Int) (l : List Int) (L : RT) : List Blk := poolO 0 R X N ++ [.ints true .i64 l, .tab true L.n L.cols]
def pkE (most : Int) (l : List Int) (L : RT) : Env := [(7, .slc 20 0 L.n L.n 6), (5, .slc 19 0 l.length l.length 1), (1, .v (.int .i64 most)), (0, .ptr 0 0)]
def pkO (R : Nat → RT) (X : Nat → Nat) (N : Int) (most : Int) (l : List Int) (m : Nat) (ro : Int) (L : RT) : St := ⟨(20, .v (.int .i64 ro)) :: (19, inat m) :: pkE most l L, 55, pkT R X N l L, [], 19⟩
def pkP (R : Nat → RT) (X : Nat → Nat) (N : Int) (most : Int) (l : List Int) (m : Nat) (ro : Int) (L : RT) : St := ⟨(8, .v (.int .i64 ro)) :: (20, .v (.int .i64 ro)) :: (19, inat m) :: pkE most l L, 55, pkT R X N l L, [], 19⟩
def pkN (R : Nat → RT) (X : Nat → Nat) (N : Int) (most : Int) (l : List Int) (m : Nat) (ro a : Int) (L : RT) : St := ⟨(25, .v (.int .i64 a)) :: (24, inat l.length) :: (23, .slc 19 0 l.length l.length 1) :: (8, .v (.int .i64 ro)) :: (20, .v (.int .i64 ro)) :: (19, inat m) :: pkE most l L, 55, pkT R X N l L, [], 19⟩
def pkC (R : Nat → RT) (X : Nat → Nat) (N : Int) (most : Int) (l : List Int) (m : Nat) (ro a c : Int) (L : RT) : St := ⟨(10, .v (.int .i64 c)) :: (pkN R X N most l m ro a L).env, 55, pkT R X N l L, [], 19⟩
def pkA (R : Nat → RT) (X : Nat → Nat) (N : Int) (most : Int) : St := ⟨[(1, .v (.int .i64 most)), (0, .ptr 0 0)], 55, poolO 0 R X N, [], 19⟩
def pkB (R : Nat → RT) (X : Nat → Nat) (N : Int) (most : Int) (l : List Int) (m : Nat) : St := ⟨[(6, inat m), (5, .slc 19 0 l.length l.length 1), (1, .v (.int .i64 most)), (0, .ptr 0 0)], 55, poolO 0 R X N ++ [.ints true .i64 l], [], 19⟩
def pkD (R : Nat → RT) (X : Nat → Nat) (N : Int) (most : Int) (l : List Int) (m : Nat) (L : RT) : St := ⟨(6, inat m) :: pkE most l L, 55, pkT R X N l L, [], 19⟩
def pkS : Specs := [(30, clientsL)]
def L0 : List Nat := [0, 1, 2, 3, 4, 5, 6, 7, 8, 9, 10, 11, 12, 13, 14, 15, 16, 17, 18]
def pikF (c : Code) : Code := sL (sR (sR (sR (sR c))))
def pik1 (c : Code) : Code := bB (sL (sR (sR (bB (sR (pikF c))))))
def pik2 (c : Code) : Code := bB (sR (sR (pik1 c)))
def pik3 (c : Code) : Code := bB (sL (sR (sR (pik2 c))))
def pkO1 (R : Nat → RT) (X : Nat → Nat) (N : Int) (most : Int) (l : List Int) (m : Nat) (ro : Int) (L : RT) : St := ⟨(21, .v (.bool (decide (ro < (m : Int))))) :: (pkO R X N most l m ro L).env, 55, pkT R X N l L, [], 19⟩
def pkN1 (R : Nat → RT) (X : Nat → Nat) (N : Int) (most : Int) (l : List Int) (m : Nat) (ro a : Int) (L : RT) : St := ⟨(26, .v (.bool (decide (a < (l.length : Int))))) :: (pkN R X N most l m ro a L).env, 55, pkT R X N l L, [], 19⟩
def emR : RT := ⟨0, fun _ => 0, fun _ => 0, fun _ => 0, fun _ => 0, fun _ => bstr [], fun _ => bstr []⟩
def pkB4 (R : Nat → RT) (X : Nat → Nat) (N : Int) (most : Int) (l : List Int) (m : Nat) : St := ⟨(7, .v (.slice none 0 0)) :: (pkB R X N most l m).env, 55, poolO 0 R X N ++ [.ints true .i64 l], [], 19⟩
/-- What a call sees of a pool at block o. -/
def poolV (o : Nat) (js : List Nat) (R : Nat → RT) (X : Nat → Nat) (N : Int) : List Blk := poolK 0 (.c .i64 c16L (hasQ R X)) (.c .i64 c16L (hasX X)) (fun v => SV.ren (pos js) (gPoolO o R v)) (gNext X) R N
/-- What a call leaves. -/
def poolW (o : Nat) (js : List Nat) (n : Nat) (R : Nat → RT) (X : Nat → Nat) (N : Int) : List Blk := poolK o (.c .i64 c16L (hasQ R X)) (.c .i64 c16L (hasX X)) (fun v => SV.ren (back js n) (gPool R v)) (gNext X) R N
theorem pkv0 (R : Nat → RT) (X : Nat → Nat) (N most : Int) (T : St → Prop) :
    vc Tryz.prog pkS noI (sL (bodyOf Tryz.f8)) ⟨[(0, .ptr 0 0), (1, .v (.int .i64 most))], 55, poolT R X N, [], 19⟩ (pr (fun st' => stL st' (pkA R X N most)) nope 0 T) = stL (pkA R X N most) (pkA R X N most) := by kernel_rfl
theorem pkv1 (R : Nat → RT) (X : Nat → Nat) (N most : Int) (T : St → Prop) :
    vc Tryz.prog pkS noI (sL (sR (bodyOf Tryz.f8))) (pkA R X N most) (pr (fun st' => stL st' (pkA R X N most)) nope 0 T) = stL (pkA R X N most) (pkA R X N most) := by kernel_rfl
theorem pkv3 (R : Nat → RT) (X : Nat → Nat) (N most : Int) (T : St → Prop) (G : List Int → Nat → Prop) :
    vc Tryz.prog pkS noI (sL (sR (sR (bodyOf Tryz.f8)))) (pkA R X N most) (pr (fun st' => ∃ (l : List Int) (m : Nat), G l m ∧ stL st' (pkB R X N most l m)) nope 0 T) =
    ∃ (R' : Nat → RT) (X' : Nat → Nat) (N' : Int), inPool (poolV 0 L0 R X N) R' X' N' ∧ okP R' X' ∧ ∀ (l : List Int) (m : Nat), l.Nodup → (∀ x ∈ l, 0 ≤ x ∧ x < 16) → l.length ≤ 1000 → m ≤ 1000 → ∃ (l' : List Int) (m' : Nat), G l' m' ∧
      stL ⟨(pkB R' X' N' most l m).env, 55, poolW 0 L0 19 R' X' N' ++ [.ints true .i64 l], [], 19⟩ (pkB R X N most l' m') := by kernel_rfl
theorem pkv4 (R : Nat → RT) (X : Nat → Nat) (N most : Int) (l : List Int) (m : Nat) (T : St → Prop) :
    vc Tryz.prog pkS noI (sL (sR (sR (sR (bodyOf Tryz.f8))))) (pkB R X N most l m) (pr (fun st' => stL st' (pkB4 R X N most l m)) nope 0 T) = stL (pkB4 R X N most l m) (pkB4 R X N most l m) := by kernel_rfl
theorem pkv5 (R : Nat → RT) (X : Nat → Nat) (N most : Int) (l : List Int) (m : Nat) (T : St → Prop) :
    vc Tryz.prog pkS noI (sL (pikF (bodyOf Tryz.f8))) (pkB4 R X N most l m) (pr (fun st' => stL st' (pkO R X N most l m 0 emR)) nope 0 T) =
    stL ⟨(20, .v (.int .i64 0)) :: (19, inat m) :: (pkB4 R X N most l m).env, 55, (pkB4 R X N most l m).tbl, [], 19⟩ (pkO R X N most l m 0 emR) := by kernel_rfl
theorem pkv6 (R : Nat → RT) (X : Nat → Nat) (N most : Int) (l : List Int) (m : Nat) (ro : Int) (L : RT) (T Z : St → Prop) (id : Nat) :
    vc Tryz.prog pkS noI (sL (bB (sR (pikF (bodyOf Tryz.f8))))) (pkO R X N most l m ro L) (pr (fun st' => stL st' (pkO1 R X N most l m ro L)) Z id T) = stL (pkO1 R X N most l m ro L) (pkO1 R X N most l m ro L) := by kernel_rfl
theorem pkvF (R : Nat → RT) (X : Nat → Nat) (N most : Int) (l : List Int) (m : Nat) (ro : Int) (L : RT) (T : St → Prop) :
    vc Tryz.prog pkS noI (sL (sR (bB (sR (pikF (bodyOf Tryz.f8)))))) (pkO1 R X N most l m ro L) (pr (fun st' => ro < (m : Int) ∧ stL st' (pkO R X N most l m ro L)) (fun st' => stL st' (pkO R X N most l m ro L)) 0 T) =
    bc (decide (ro < (m : Int))) (ro < (m : Int) ∧ stL (pkO R X N most l m ro L) (pkO R X N most l m ro L)) (Nat.beq 0 0 = true ∧ stL (pkO R X N most l m ro L) (pkO R X N most l m ro L)) := by kernel_rfl
theorem pkv7 (R : Nat → RT) (X : Nat → Nat) (N most : Int) (l : List Int) (m : Nat) (ro : Int) (L : RT) (T : St → Prop) :
    vc Tryz.prog pkS noI (sL (pik1 (bodyOf Tryz.f8))) (pkO R X N most l m ro L) (pr (fun st' => stL st' (pkP R X N most l m ro L)) nope 0 T) = stL (pkP R X N most l m ro L) (pkP R X N most l m ro L) := by kernel_rfl
theorem pkv8 (R : Nat → RT) (X : Nat → Nat) (N most : Int) (l : List Int) (m : Nat) (ro : Int) (L : RT) (T : St → Prop) :
    vc Tryz.prog pkS noI (sL (sR (pik1 (bodyOf Tryz.f8)))) (pkP R X N most l m ro L) (pr (fun st' => stL st' (pkN R X N most l m ro 0 L)) nope 0 T) = stL (pkN R X N most l m ro 0 L) (pkN R X N most l m ro 0 L) := by kernel_rfl
theorem pkv9 (R : Nat → RT) (X : Nat → Nat) (N most : Int) (l : List Int) (m : Nat) (ro a : Int) (L : RT) (T Z : St → Prop) (id : Nat) :
    vc Tryz.prog pkS noI (sL (pik2 (bodyOf Tryz.f8))) (pkN R X N most l m ro a L) (pr (fun st' => stL st' (pkN1 R X N most l m ro a L)) Z id T) = stL (pkN1 R X N most l m ro a L) (pkN1 R X N most l m ro a L) := by kernel_rfl
theorem pkvN (R : Nat → RT) (X : Nat → Nat) (N most : Int) (l : List Int) (m : Nat) (ro a : Int) (L : RT) (T : St → Prop) (D : Prop) :
    vc Tryz.prog pkS noI (sL (sR (pik2 (bodyOf Tryz.f8)))) (pkN1 R X N most l m ro a L) (pr (fun st' => a < (l.length : Int) ∧ stL st' (pkN R X N most l m ro a L)) (fun st' => D ∧ stL st' (pkO R X N most l m ro L)) 2 T) =
    bc (decide (a < (l.length : Int))) (a < (l.length : Int) ∧ stL (pkN R X N most l m ro a L) (pkN R X N most l m ro a L)) (Nat.beq 2 2 = true ∧ D ∧ stL (pkO R X N most l m ro L) (pkO R X N most l m ro L)) := by kernel_rfl
theorem pkv10 (R : Nat → RT) (X : Nat → Nat) (N most : Int) (l : List Int) (m : Nat) (ro a : Int) (L : RT) (T : St → Prop) :
    vc Tryz.prog pkS noI (sL (pik3 (bodyOf Tryz.f8))) (pkN R X N most l m ro a L) (pr (fun st' => stL st' (pkC R X N most l m ro a (l.getD (0 + a.toNat * 1 + 0) 0) L)) nope 0 T) =
    ob (decide (0 ≤ a) && decide (a < (l.length : Int))) (ob (decide (0 + a.toNat * 1 + 0 < l.length)) (stL (pkC R X N most l m ro a (l.getD (0 + a.toNat * 1 + 0) 0) L) (pkC R X N most l m ro a (l.getD (0 + a.toNat * 1 + 0) 0) L))) := by kernel_rfl
def pkQ (R : Nat → RT) (ro : Nat) (c : Nat) (L : RT) : RT := L.push ((R c).c (0 + (ro : Int).toNat)) ((R c).s (0 + (ro : Int).toNat)) ((R c).k (0 + (ro : Int).toNat)) ((R c).e (0 + (ro : Int).toNat)) ((R c).nm (0 + (ro : Int).toNat)) ((R c).b (0 + (ro : Int).toNat))
def pkNp (R : Nat → RT) (X : Nat → Nat) (N : Int) (most : Int) (l : List Int) (m : Nat) (ro a : Int) (L : RT) : St := ⟨(pkN R X N most l m ro a L).env, 55, poolK 0 (.c .i64 c16L (hasQ R X)) (.c .i64 c16L (hasX X)) (fun v => SV.purge [20] (gPoolO 0 R v)) (gNext X) R N ++ [.ints true .i64 l, .tab true L.n L.cols], [], 19⟩
theorem pkv11 (R : Nat → RT) (X : Nat → Nat) (N most : Int) (l : List Int) (m ro : Nat) (a : Int) (L : RT) (T : St → Prop) (G : RT → Prop) : ∀ c : Nat, c < 16 →
    vc Tryz.prog pkS noI (sR (pik3 (bodyOf Tryz.f8))) (pkC R X N most l m ro a (c : Int) L) (pr (fun st' => ∃ L' : RT, G L' ∧ stL st' (pkN R X N most l m ro a L')) nope 0 T) =
    bc (decide ((ro : Int) < (lenC R X c : Int))) (bc (bif true then decide ((L.n : Int) < most) else false) (ob (true && decide ((ro : Int) < (lenC R X c : Int))) (ob true (ob (decide (0 + (ro : Int).toNat < (R c).n)) (ob true (ob (Nat.beq (L.n * 6) (L.n * 6)) (ob (decide ((L.n + 1) * 64 ≤ 140737488355328))
      (∃ L' : RT, G L' ∧ stL (pkNp R X N most l m ro a (pkQ R ro c L)) (pkN R X N most l m ro a L'))))))))
      (∃ L' : RT, G L' ∧ stL (pkN R X N most l m ro a L) (pkN R X N most l m ro a L'))) (∃ L' : RT, G L' ∧ stL (pkN R X N most l m ro a L) (pkN R X N most l m ro a L'))
  | 0, _ => by kernel_rfl
  | 1, _ => by kernel_rfl
  | 2, _ => by kernel_rfl
  | 3, _ => by kernel_rfl
  | 4, _ => by kernel_rfl
  | 5, _ => by kernel_rfl
  | 6, _ => by kernel_rfl
  | 7, _ => by kernel_rfl
  | 8, _ => by kernel_rfl
  | 9, _ => by kernel_rfl
  | 10, _ => by kernel_rfl
  | 11, _ => by kernel_rfl
  | 12, _ => by kernel_rfl
  | 13, _ => by kernel_rfl
  | 14, _ => by kernel_rfl
  | 15, _ => by kernel_rfl
  | n + 16, h => absurd h (by omega)
theorem pkv14 (R : Nat → RT) (X : Nat → Nat) (N most : Int) (l : List Int) (m : Nat) (ro a a' : Int) (L L' : RT) (T Z : St → Prop) (id : Nat) :
    vc Tryz.prog pkS noI (sR (sR (sR (pik2 (bodyOf Tryz.f8))))) (pkN R X N most l m ro a L) (pr (fun st' => stL st' (pkN R X N most l m ro a' L')) Z id T) =
    stL (pkN R X N most l m ro (IntKind.i64.wrap (a + 1)) L) (pkN R X N most l m ro a' L') := by kernel_rfl
theorem pkv15 (R : Nat → RT) (X : Nat → Nat) (N most : Int) (l : List Int) (m : Nat) (ro ro' : Int) (L L' : RT) (T Z : St → Prop) (id : Nat) :
    vc Tryz.prog pkS noI (sR (sR (sR (bB (sR (pikF (bodyOf Tryz.f8))))))) (pkO R X N most l m ro L) (pr (fun st' => stL st' (pkO R X N most l m ro' L')) Z id T) =
    stL (pkO R X N most l m (IntKind.i64.wrap (ro + 1)) L) (pkO R X N most l m ro' L') := by kernel_rfl
theorem pkv16 (R : Nat → RT) (X : Nat → Nat) (N most : Int) (l : List Int) (m : Nat) (ro : Int) (L : RT) (K : SV → List Blk → List Nat → Prop) :
    vc Tryz.prog pkS noI (sR (sR (sR (sR (sR (bodyOf Tryz.f8)))))) (pkO R X N most l m ro L) (endQ Tryz.prog Tryz.f8 K) =
    K (.slc 20 0 L.n L.n 6) (pkT R X N l L) [] := by kernel_rfl

end Go.Proofs.YtmnenigmkfnciaaGreatDoor.Sx
/- pool: what a pool picks, put together. No condition. -/
namespace Go.Proofs.YtmnenigmkfnciaaGreatDoor.Sx
open Go Go.Proofs
set_option maxRecDepth 100000
set_option linter.unusedSimpArgs false
set_option linter.unusedVariables false

section
variable (R : Nat → RT) (X : Nat → Nat) (N most : Int) (l : List Int) (m : Nat)
theorem pkT_ok (L : RT) : okST (pkT R X N l L) := okST_app (poolO_ok 0 R X N) ⟨trivial, trivial, trivial⟩
theorem pkA_self : stL (pkA R X N most) (pkA R X N most) := stL_self _ (by kernel_rfl) ⟨trivial, trivial, trivial⟩ (poolO_ok 0 R X N)
theorem pkB_self : stL (pkB R X N most l m) (pkB R X N most l m) := stL_self _ (by kernel_rfl) ⟨trivial, Nat.le_refl _, trivial, trivial, trivial⟩ (okST_app (poolO_ok 0 R X N) ⟨trivial, trivial⟩)
theorem pkB4_self : stL (pkB4 R X N most l m) (pkB4 R X N most l m) := stL_self _ (by kernel_rfl) ⟨trivial, trivial, Nat.le_refl _, trivial, trivial, trivial⟩ (okST_app (poolO_ok 0 R X N) ⟨trivial, trivial⟩)
theorem pkO_self (ro : Int) (L : RT) : stL (pkO R X N most l m ro L) (pkO R X N most l m ro L) := stL_self _ (by kernel_rfl) ⟨trivial, trivial, Nat.le_refl _, Nat.le_refl _, trivial, trivial, trivial⟩ (pkT_ok R X N l L)
theorem pkO1_self (ro : Int) (L : RT) : stL (pkO1 R X N most l m ro L) (pkO1 R X N most l m ro L) := stL_self _ (by kernel_rfl) ⟨trivial, trivial, trivial, Nat.le_refl _, Nat.le_refl _, trivial, trivial, trivial⟩ (pkT_ok R X N l L)
theorem pkP_self (ro : Int) (L : RT) : stL (pkP R X N most l m ro L) (pkP R X N most l m ro L) := stL_self _ (by kernel_rfl) ⟨trivial, trivial, trivial, Nat.le_refl _, Nat.le_refl _, trivial, trivial, trivial⟩ (pkT_ok R X N l L)
theorem pkN_self (ro a : Int) (L : RT) : stL (pkN R X N most l m ro a L) (pkN R X N most l m ro a L) := stL_self _ (by kernel_rfl) ⟨trivial, trivial, Nat.le_refl _, trivial, trivial, trivial, Nat.le_refl _, Nat.le_refl _, trivial, trivial, trivial⟩ (pkT_ok R X N l L)
theorem pkN1_self (ro a : Int) (L : RT) : stL (pkN1 R X N most l m ro a L) (pkN1 R X N most l m ro a L) := stL_self _ (by kernel_rfl) ⟨trivial, trivial, trivial, Nat.le_refl _, trivial, trivial, trivial, Nat.le_refl _, Nat.le_refl _, trivial, trivial, trivial⟩ (pkT_ok R X N l L)
theorem pkC_self (ro a c : Int) (L : RT) : stL (pkC R X N most l m ro a c L) (pkC R X N most l m ro a c L) := stL_self _ (by kernel_rfl) ⟨trivial, trivial, trivial, Nat.le_refl _, trivial, trivial, trivial, Nat.le_refl _, Nat.le_refl _, trivial, trivial, trivial⟩ (pkT_ok R X N l L)
theorem ksR_self (f : Int → Bool) : ksEq (.c .i64 c16L f) (.c .i64 c16L f) := ⟨rfl, rfl, fun _ _ => rfl⟩
theorem poolV_in : inPool (poolV 0 L0 R X N) R X N := inPool_of (ksR_self _) (ksR_self _) (cl16 ⟨slc_le _ _, slc_le _ _, slc_le _ _, slc_le _ _, slc_le _ _, slc_le _ _, slc_le _ _, slc_le _ _, slc_le _ _, slc_le _ _, slc_le _ _, slc_le _ _, slc_le _ _, slc_le _ _, slc_le _ _, slc_le _ _⟩) (fun _ _ => rfl)
theorem poolW_le {m m' : List Blk} {K : Prop} (h : tblLeK m m' K) : tblLeK (poolW 0 L0 19 R X N ++ m) (poolO 0 R X N ++ m') K := poolK_le (ksR_self _) (ksR_self _) (cl16 ⟨slc_le _ _, slc_le _ _, slc_le _ _, slc_le _ _, slc_le _ _, slc_le _ _, slc_le _ _, slc_le _ _, slc_le _ _, slc_le _ _, slc_le _ _, slc_le _ _, slc_le _ _, slc_le _ _, slc_le _ _, slc_le _ _⟩) (fun _ _ => rfl) h
theorem poolP_le {m m' : List Blk} {K : Prop} (h : tblLeK m m' K) : tblLeK (poolK 0 (.c .i64 c16L (hasQ R X)) (.c .i64 c16L (hasX X)) (fun v => SV.purge [20] (gPoolO 0 R v)) (gNext X) R N ++ m) (poolO 0 R X N ++ m') K := poolK_le (ksR_self _) (ksR_self _) (cl16 ⟨slc_le _ _, slc_le _ _, slc_le _ _, slc_le _ _, slc_le _ _, slc_le _ _, slc_le _ _, slc_le _ _, slc_le _ _, slc_le _ _, slc_le _ _, slc_le _ _, slc_le _ _, slc_le _ _, slc_le _ _, slc_le _ _⟩) (fun _ _ => rfl) h
theorem pkB_le : stL ⟨(pkB R X N most l m).env, 55, poolW 0 L0 19 R X N ++ [.ints true .i64 l], [], 19⟩ (pkB R X N most l m) := by
  refine stL_of (by kernel_rfl) (fun K hK => ?_) (poolW_le R X N (tblLeK_self _ _ ⟨trivial, trivial⟩ trivial))
  exact leK_self (inat m) _ trivial (leK_self (.slc 19 0 l.length l.length 1) _ (Nat.le_refl _) (leK_self (.v (.int .i64 most)) _ trivial (leK_self (.ptr 0 0) _ trivial hK)))
theorem pkNp_le (ro a : Int) (L : RT) : stL (pkNp R X N most l m ro a L) (pkN R X N most l m ro a L) := by
  refine stL_of (by kernel_rfl) (fun K hK => ?_) (poolP_le R X N (tblLeK_self _ _ ⟨trivial, trivial, trivial⟩ trivial))
  exact leK_self (.v (.int .i64 a)) _ trivial (leK_self (inat l.length) _ trivial (leK_self (.slc 19 0 l.length l.length 1) _ (Nat.le_refl _) (leK_self (.v (.int .i64 ro)) _ trivial (leK_self (.v (.int .i64 ro)) _ trivial (leK_self (inat m) _ trivial
    (leK_self (.slc 20 0 L.n L.n 6) _ (Nat.le_refl _) (leK_self (.slc 19 0 l.length l.length 1) _ (Nat.le_refl _) (leK_self (.v (.int .i64 most)) _ trivial (leK_self (.ptr 0 0) _ trivial hK)))))))))
theorem nil_le (i s : Nat) (K : Prop) : SV.leK (.v (.slice none 0 0)) (.slc i 0 0 0 s) K = K := by kernel_rfl
theorem pkO_le : stL ⟨(20, .v (.int .i64 0)) :: (19, inat m) :: (pkB4 R X N most l m).env, 55, (pkB4 R X N most l m).tbl, [], 19⟩ (pkO R X N most l m 0 emR) := by
  refine stL_of (by kernel_rfl) (fun K hK => ?_) ?_
  · refine leK_self (.v (.int .i64 0)) _ trivial (leK_self (inat m) _ trivial ?_)
    refine (nil_le 20 6 _).mpr ?_
    exact leK_self (.slc 19 0 l.length l.length 1) _ (Nat.le_refl _) (leK_self (.v (.int .i64 most)) _ trivial (leK_self (.ptr 0 0) _ trivial hK))
  · show tblLeK (poolO 0 R X N ++ [.ints true .i64 l]) (poolO 0 R X N ++ [.ints true .i64 l, .tab true 0 emR.cols]) True
    exact tblLeK_app _ _ _ _ (poolO_ok 0 R X N) (blkLeK_self (.ints true .i64 l) _ trivial ⟨ob_mk rfl trivial, trivial⟩)
end
theorem pkS_ok : SpecsOK Tryz.prog pkS := .cons clientsL_ok .nil

end Go.Proofs.YtmnenigmkfnciaaGreatDoor.Sx
/- pool: Pick by contract. No condition. -/
namespace Go.Proofs.YtmnenigmkfnciaaGreatDoor.Sx
open Go Go.Proofs
set_option maxRecDepth 100000
set_option linter.unusedSimpArgs false
set_option linter.unusedVariables false

def pickL : Spec := .m fun args blks K => match args with
  | [.ptr 0 0, .v (.int .i64 most)] => ∃ (R : Nat → RT) (X : Nat → Nat) (N : Int), inPool blks R X N ∧ okP R X ∧ ob (decide (0 ≤ most) && decide (most ≤ 8))
      (∀ L : RT, PickOK R L → L.n ≤ most.toNat → K (.slc 19 0 L.n L.n 6) (poolT R X N ++ [.tab true L.n L.cols]) [])
  | _ => False
theorem pick_round (R : Nat → RT) (X : Nat → Nat) (N : Int) (most : Nat) (l : List Int) (m ro : Nat) (hP : okP R X) (hnd : l.Nodup) (hl : ∀ x ∈ l, 0 ≤ x ∧ x < 16) (hlen : l.length ≤ 1000) (hmo : most ≤ 8) (hm : m ≤ 1000) (hro : ro < m) (L : RT) (hI : pkI R l most ro 0 L) (T : St → Prop) :
    Tr Tryz.prog (sR (sR (bB (sR (pikF (bodyOf Tryz.f8)))))) (pkO R X N (most : Int) l m (ro : Int) L) (pr (fun st' => ∃ L' : RT, pkI R l most (ro + 1) 0 L' ∧ stL st' (pkO R X N (most : Int) l m ((ro + 1 : Nat) : Int) L')) nope 0 T) := by
  refine TrR.nx (N1 := fun st' => ∃ L' : RT, pkI R l most (ro + 1) 0 L' ∧ stL st' (pkO R X N (most : Int) l m (ro : Int) L')) (by kernel_rfl) ?_ ?_
  · refine TrR.blk (i := 1) (by kernel_rfl) ?_
    refine TrR.nx (by kernel_rfl) (TrR.leaf mixed pkS_ok (pkv7 R X N most l m ro L T) (pkP_self R X N most l m ro L)) fun st' h => Tr.le h ?_
    refine TrR.nx (by kernel_rfl) (TrR.leaf mixed pkS_ok (pkv8 R X N most l m ro L T) (pkN_self R X N most l m ro 0 L)) fun st' h => Tr.le h ?_
    refine TrR.loop (i := 2) (Z := fun st' => ∃ L' : RT, pkI R l most ro l.length L' ∧ stL st' (pkO R X N (most : Int) l m (ro : Int) L')) l.length (fun a L' => pkI R l most ro a L') (fun a L' => pkN R X N (most : Int) l m (ro : Int) (a : Int) L') L (by kernel_rfl) hI (pkN_self R X N most l m ro 0 L) ?_ fun st' ⟨L', h1, h2⟩ => ⟨L', pkI_turn h1, h2⟩
    intro a ha L hI
    refine TrR.nx (by kernel_rfl) (TrR.leaf mixed pkS_ok (pkv9 R X N most l m ro a L T _ _) (pkN1_self R X N most l m ro a L)) fun st' h => Tr.le h ?_
    refine TrR.nx (by kernel_rfl) (TrR.both (TrR.leaf mixed pkS_ok (pkvN R X N most l m ro a L T (a = l.length)) (bc_mk (fun h => ⟨of_decide_eq_true h, pkN_self R X N most l m ro a L⟩) (fun h => ⟨rfl, by have := of_decide_eq_false h; omega, pkO_self R X N most l m ro L⟩))) (fun st h => h) fun st ⟨h, h'⟩ => ⟨L, by subst h; exact hI, h'⟩) ?_
    rintro st' ⟨hal, h⟩
    have hal : a < l.length := by omega
    refine Tr.le h ?_
    refine TrR.nx (N1 := fun st' => ∃ L' : RT, pkI R l most ro (a + 1) L' ∧ stL st' (pkN R X N (most : Int) l m (ro : Int) (a : Int) L')) (by kernel_rfl) ?_ ?_
    · refine TrR.blk (i := 3) (by kernel_rfl) ?_
      refine TrR.nx (by kernel_rfl) (TrR.leaf mixed pkS_ok (pkv10 R X N most l m ro a L T) ?_) fun st' h => Tr.le h ?_
      · refine ob_mk (by simp only [Bool.and_eq_true, decide_eq_true_eq]; omega) (ob_mk (decide_eq_true (by omega)) (pkC_self R X N most l m ro a _ L))
      · have hix : 0 + ((a : Nat) : Int).toNat * 1 + 0 = a := by omega
        rw [hix]
        have hr := hl _ (getD_mem hal)
        obtain ⟨c, hc⟩ := Int.eq_ofNat_of_zero_le hr.1
        have hc16 : c < 16 := by omega
        have hP' := hP
        unfold okP at hP'
        obtain ⟨_, h4, hrow⟩ := hP' c hc16
        rw [hc]
        refine TrR.leaf mixed pkS_ok (pkv11 R X N most l m ro a L T (fun L' => pkI R l most ro (a + 1) L') c hc16) ?_
        have hlc : lenC R X c = (R c).n := has_len R X c (has_c c hc16)
        rw [hlc]
        refine bc_mk (fun h1 => ?_) (fun h1 => ⟨L, pkI_skip hI (.inl (by rw [hc]; have := of_decide_eq_false h1; simp only [Int.toNat_natCast]; omega)), pkN_self R X N most l m ro a L⟩)
        have h1 := of_decide_eq_true h1
        refine bc_mk (fun h2 => ?_) (fun h2 => ⟨L, pkI_skip hI (.inr (by have := of_decide_eq_false (show decide ((L.n : Int) < (most : Int)) = false from h2); omega)), pkN_self R X N most l m ro a L⟩)
        have h2 := of_decide_eq_true (show decide ((L.n : Int) < (most : Int)) = true from h2)
        have hro' : ro < (R c).n := by omega
        have hpush := pkI_push hnd hl hal hI (by rw [hc]) hc16 (hrow ro hro').1.1 hro' (by omega)
        have hir : 0 + ((ro : Nat) : Int).toNat = ro := by omega
        refine ob_mk (by rw [Bool.true_and]; exact decide_eq_true h1) (ob_mk rfl (ob_mk (decide_eq_true (by omega)) (ob_mk rfl (ob_mk (Nat.beq_refl _) (ob_mk (decide_eq_true (by omega)) ⟨pkQ R ro c L, ?_, pkNp_le R X N most l m ro a _⟩)))))
        unfold pkQ
        rw [hir]
        exact hpush
    · rintro st' ⟨L', h1, h2⟩
      refine Tr.le h2 (TrR.norm (TrR.leaf mixed pkS_ok (pkv14 R X N most l m ro a ((a + 1 : Nat) : Int) L' L' T _ _) ?_) fun st h => ⟨hal, L', h1, h⟩)
      rw [show IntKind.i64.wrap ((a : Int) + 1) = ((a + 1 : Nat) : Int) from by rw [wrap_i64 _ (by omega) (by omega)]; omega]
      exact pkN_self R X N most l m _ _ L'
  · rintro st' ⟨L', h1, h2⟩
    refine Tr.le h2 (TrR.norm (TrR.leaf mixed pkS_ok (pkv15 R X N most l m ro ((ro + 1 : Nat) : Int) L' L' T _ _) ?_) fun st h => ⟨L', h1, h⟩)
    rw [show IntKind.i64.wrap ((ro : Int) + 1) = ((ro + 1 : Nat) : Int) from by rw [wrap_i64 _ (by omega) (by omega)]; omega]
    exact pkO_self R X N most l m _ L'
theorem pick_ok (R : Nat → RT) (X : Nat → Nat) (N : Int) (most : Nat) (hP : okP R X) (hmo : most ≤ 8) (K : SV → List Blk → List Nat → Prop) (hK : ∀ (l : List Int) (L : RT), PickOK R L → L.n ≤ most → K (.slc 20 0 L.n L.n 6) (pkT R X N l L) []) :
    FnOK Tryz.prog 8 [.ptr 0 0, .v (.int .i64 (most : Int))] (poolT R X N) K := by
  refine FnOK.of_tr (c := bodyOf Tryz.f8) Tryz.func8 (by kernel_rfl) (by kernel_rfl) ?_
  show Tr Tryz.prog (bodyOf Tryz.f8) ⟨[(0, .ptr 0 0), (1, .v (.int .i64 (most : Int)))], 55, poolT R X N, [], 19⟩ _
  refine TrR.top (by kernel_rfl) (TrR.leaf mixed pkS_ok (pkv0 R X N most _) (pkA_self R X N most)) fun st' h => Tr.le h ?_
  refine TrR.top (by kernel_rfl) (TrR.leaf mixed pkS_ok (pkv1 R X N most _) (pkA_self R X N most)) fun st' h => Tr.le h ?_
  refine TrR.top (by kernel_rfl) (TrR.leaf mixed pkS_ok (pkv3 R X N most _ (fun l m => l.Nodup ∧ (∀ x ∈ l, 0 ≤ x ∧ x < 16) ∧ l.length ≤ 1000 ∧ m ≤ 1000)) ⟨R, X, N, poolV_in R X N, hP, fun l m h1 h2 h3 h4 => ⟨l, m, ⟨h1, h2, h3, h4⟩, pkB_le R X N most l m⟩⟩) ?_
  rintro st' ⟨l, m, ⟨hnd, hl, hlen, hm⟩, h⟩
  refine Tr.le h ?_
  refine TrR.top (by kernel_rfl) (TrR.leaf mixed pkS_ok (pkv4 R X N most l m _) (pkB4_self R X N most l m)) fun st' h => Tr.le h ?_
  refine TrR.top (N1 := fun st' => ∃ (ro : Int) (L : RT), (PickOK R L ∧ L.n ≤ most) ∧ stL st' (pkO R X N (most : Int) l m ro L)) (by kernel_rfl) ?_ ?_
  · refine TrR.nx (by kernel_rfl) (TrR.leaf mixed pkS_ok (pkv5 R X N most l m _) (pkO_le R X N most l m)) fun st' h => Tr.le h ?_
    refine TrR.loop (i := 0) (Z := fun st' => ∃ (ro : Int) (L : RT), (PickOK R L ∧ L.n ≤ most) ∧ stL st' (pkO R X N (most : Int) l m ro L)) m (fun ro L => pkI R l most ro 0 L) (fun ro L => pkO R X N (most : Int) l m (ro : Int) L) emR (by kernel_rfl) (pkI_0 R l most emR rfl) (pkO_self R X N most l m 0 emR) ?_ fun _ h => h
    intro ro hro L hI
    refine TrR.nx (by kernel_rfl) (TrR.leaf mixed pkS_ok (pkv6 R X N most l m ro L _ _ _) (pkO1_self R X N most l m ro L)) fun st' h => Tr.le h ?_
    refine TrR.nx (by kernel_rfl) (TrR.both (TrR.leaf mixed pkS_ok (pkvF R X N most l m ro L _) (bc_mk (fun h => ⟨of_decide_eq_true h, pkO_self R X N most l m ro L⟩) (fun h => ⟨rfl, pkO_self R X N most l m ro L⟩))) (fun st h => h) fun st h => ⟨ro, L, ⟨hI.1, hI.2.1⟩, h⟩) ?_
    rintro st' ⟨hrm, h⟩
    have hrm : ro < m := by omega
    refine Tr.le h (TrR.both (pick_round R X N most l m ro hP hnd hl hlen hmo hm hrm L hI _) (fun st h => ⟨hrm, h⟩) fun st h => h.elim)
  · rintro st' ⟨ro, L, ⟨h1, h2⟩, h⟩
    exact Tr.le h (TrR.fin mixed pkS_ok (pkv16 R X N most l m ro L K) (hK l L h1 h2))
theorem pickL_ok : SpecOK Tryz.prog 8 pickL := by
  refine ⟨enters_of Tryz.func8 rfl rfl, fun args blks K h => ?_⟩
  dsimp only at h
  split at h
  case h_2 => exact h.elim
  rename_i most
  obtain ⟨R, X, N, hin, hP, h⟩ := h
  rw [inPool] at hin
  obtain ⟨hle, hlen⟩ := hin
  rw [ob_iff] at h
  simp only [Bool.and_eq_true, decide_eq_true_eq] at h
  obtain ⟨⟨hm0, hm1⟩, hK⟩ := h
  obtain ⟨most, rfl⟩ := Int.eq_ofNat_of_zero_le hm0
  have hlen := Nat.eq_of_beq_eq_true hlen
  refine FnOK.pre hle (by rw [Bool.and_eq_true]; exact ⟨poolT_lt R X _, by rw [hlen]; rfl⟩) ?_
  refine FnOK.le (FnOK.keep (L0 ++ [20]) ?_)
  refine pick_ok R X N most hP (by omega) _ fun l L h1 h2 => ⟨by kernel_rfl, poolK 0 (.c .i64 c16L (hasQ R X)) (.c .i64 c16L (hasX X)) (fun v => SV.ren (pos (L0 ++ [20])) (gPoolO 0 R v)) (gNext X) R N ++ [.tab true L.n L.cols], by kernel_rfl, ?_⟩
  refine ⟨.slc 19 0 L.n L.n 6, poolT R X N ++ [.tab true L.n L.cols], [], le_self _ (Nat.le_refl _), ?_, by kernel_rfl, hK L h1 (by simpa using h2)⟩
  exact (tblLeK_le _ _ True (poolK_le (o := 0) (ksR_self _) (ksR_self _) (cl16 ⟨slc_le _ _, slc_le _ _, slc_le _ _, slc_le _ _, slc_le _ _, slc_le _ _, slc_le _ _, slc_le _ _, slc_le _ _, slc_le _ _, slc_le _ _, slc_le _ _, slc_le _ _, slc_le _ _, slc_le _ _, slc_le _ _⟩) (fun _ _ => rfl) (tblLeK_self [.tab true L.n L.cols] _ ⟨trivial, trivial⟩ trivial))).1

end Go.Proofs.YtmnenigmkfnciaaGreatDoor.Sx
/- pool: what Done does. No condition. -/
namespace Go.Proofs.YtmnenigmkfnciaaGreatDoor.Sx
open Go Go.Proofs
set_option maxRecDepth 100000
set_option linter.unusedSimpArgs false
set_option linter.unusedVariables false

def tabsL (R : Nat → RT) : List Blk := [.tab true (R 0).n (R 0).cols, .tab true (R 1).n (R 1).cols, .tab true (R 2).n (R 2).cols, .tab true (R 3).n (R 3).cols, .tab true (R 4).n (R 4).cols, .tab true (R 5).n (R 5).cols, .tab true (R 6).n (R 6).cols, .tab true (R 7).n (R 7).cols, .tab true (R 8).n (R 8).cols, .tab true (R 9).n (R 9).cols, .tab true (R 10).n (R 10).cols, .tab true (R 11).n (R 11).cols, .tab true (R 12).n (R 12).cols, .tab true (R 13).n (R 13).cols, .tab true (R 14).n (R 14).cols, .tab true (R 15).n (R 15).cols]
def donK (ks kx : KS) (h k : Value → SV) (R : Nat → RT) (N : Int) (L : RT) : List Blk := .cells true [.mp 2, .mp 3, .v (.int .i64 N)] :: .tab true L.n L.cols :: .map true false ks h :: .map true true kx k :: tabsL R
/-- The pool's memory, and the requests behind its first block. -/
def donT (R : Nat → RT) (X : Nat → Nat) (N : Int) (L : RT) : List Blk := donK (.c .i64 c16L (hasQ R X)) (.c .i64 c16L (hasX X)) (gPoolO 1 R) (gNext X) R N L
def dnE (L : RT) (p : Nat) (was i : Int) : Env := [(19, .v (.int .i64 i)), (18, inat L.n), (17, .slc 1 0 L.n p 6), (5, .v (.int .i64 was)), (0, .ptr 0 0)]
def dnH (R : Nat → RT) (X : Nat → Nat) (N : Int) (L : RT) (p : Nat) (was i : Int) : St := ⟨dnE L p was i, 86, donT R X N L, [], 20⟩
def dnC (R : Nat → RT) (X : Nat → Nat) (N : Int) (L : RT) (p : Nat) (was i : Int) (c s k e : Int) (n b : ByteArray) : St := ⟨(7, .ptr 20 0) :: dnE L p was i, 86, donT R X N L ++ [.cells true (rq c s k e n b)], [], 20⟩
def deleteH : Spec := .m fun args blks K => match args with
  | [.slc 0 0 m m' 6, .v (.int .i64 y), .v (.int .i64 z)] => ob ((y == 0) && (z == 1)) (∃ r : RT, blks = [.tab true r.n r.cols] ∧ ob ((Nat.beq r.n m && Nat.beq r.n m') && (decide (1 ≤ r.n) && decide (r.n ≤ 4))) (K (.slc 0 0 (r.n - 1) r.n 6) [.tab true (r.n - 1) r.del.cols] []))
  | _ => False
theorem deleteH_ok : SpecOK Tryz.prog 36 deleteH := ⟨deleteS_ok.1, fun args blks K h => by
  dsimp only at h
  split at h
  case h_2 => exact h.elim
  rw [ob_iff] at h
  simp only [Bool.and_eq_true, beq_iff_eq] at h
  obtain ⟨⟨rfl, rfl⟩, h⟩ := h
  exact deleteS_ok.2 _ _ K h⟩

end Go.Proofs.YtmnenigmkfnciaaGreatDoor.Sx
/- pool: Done, its code's leaves. No condition. -/
namespace Go.Proofs.YtmnenigmkfnciaaGreatDoor.Sx
open Go Go.Proofs
set_option maxRecDepth 100000
set_option linter.unusedSimpArgs false
set_option linter.unusedVariables false

structure DY where
  R : Nat → RT
  X : Nat → Nat
  N : Int
def dnS : Specs := [(27, pcheckG), (28, findS), (36, deleteH)]
def donF (c : Code) : Code := sL (sR (sR (sR c)))
def don1 (c : Code) : Code := bB (sL (sR (sR (bB (sR (donF c))))))
def dnX (X : Nat → Nat) (c : Nat) (s : Int) : Int := mx (nextC X c) (IntKind.i64.wrap (s + 1))
def dnT (R : Nat → RT) (X : Nat → Nat) (N : Int) (c : Nat) (s : Int) (at' : Int) (r L : RT) : List Blk := (donK (insK (.c .i64 c16L (hasQ R X)) (.i .i64 (c : Int))) (insK (.c .i64 c16L (hasX X)) (.i .i64 (c : Int)))
  (fun v => mixS (keq (.int .i64 (c : Int)) v) (.slc (4 + c) 0 (r.n - 1) r.n 6) (gPoolO 1 R v)) (fun v => mixS (keq (.int .i64 (c : Int)) v) (.v (.int .i64 (dnX X c s))) (gNext X v)) R (IntKind.i64.wrap (N - at')) L).set (4 + c) (.tab true (r.n - 1) r.del.cols)
theorem dnv7 (R : Nat → RT) (X : Nat → Nat) (N : Int) (L : RT) (p : Nat) (was i : Int) (s k e : Int) (n b : ByteArray) (T : St → Prop) (G : DY → Prop) (Z : St → Prop) : ∀ c : Nat, c < 16 →
    vc Tryz.prog dnS noI (sR (don1 (bodyOf Tryz.f11))) (dnC R X N L p was i (c : Int) s k e n b) (pr (fun st' => ∃ y : DY, G y ∧ stL st' (dnH y.R y.X y.N L p was i)) Z 1 T) =
    ob (reqOK (c : Int) s k e n b) (∃ r : RT, [Blk.tab true (R c).n (R c).cols] = [Blk.tab true r.n r.cols] ∧ risR r ∧ ob ((Nat.beq r.n (lenC R X c) && Nat.beq r.n (lenC R X c)) && (decide (r.n ≤ 1000000) && (decide (0 ≤ dnX X c s) && decide (dnX X c s < 4294967296))))
      (∀ (j : Nat) (f : Bool), placeR r (dnX X c s) j f → ob (((0 : Int) == 0) && ((j : Int) == 1)) (∃ r1 : RT, [Blk.tab true r.n r.cols] = [Blk.tab true r1.n r1.cols] ∧ ob ((Nat.beq r1.n (lenC R X c) && Nat.beq r1.n (lenC R X c)) && (decide (1 ≤ r1.n) && decide (r1.n ≤ 4)))
        (ob true (ob true (∃ y : DY, G y ∧ stL ⟨dnE L p was i, 86, dnT R X N c s (j : Int) r1 L, [], 20⟩ (dnH y.R y.X y.N L p was i)))))))
  | 0, _ => by kernel_rfl
  | 1, _ => by kernel_rfl
  | 2, _ => by kernel_rfl
  | 3, _ => by kernel_rfl
  | 4, _ => by kernel_rfl
  | 5, _ => by kernel_rfl
  | 6, _ => by kernel_rfl
  | 7, _ => by kernel_rfl
  | 8, _ => by kernel_rfl
  | 9, _ => by kernel_rfl
  | 10, _ => by kernel_rfl
  | 11, _ => by kernel_rfl
  | 12, _ => by kernel_rfl
  | 13, _ => by kernel_rfl
  | 14, _ => by kernel_rfl
  | 15, _ => by kernel_rfl
  | n + 16, h => absurd h (by omega)
def dnI0 (R : Nat → RT) (X : Nat → Nat) (N : Int) (L : RT) (p : Nat) : St := ⟨[(0, .ptr 0 0), (1, .slc 1 0 L.n p 6)], 86, donT R X N L, [], 20⟩
def dnB (R : Nat → RT) (X : Nat → Nat) (N : Int) (L : RT) (p : Nat) (was : Int) : St := ⟨[(5, .v (.int .i64 was)), (0, .ptr 0 0), (1, .slc 1 0 L.n p 6)], 86, donT R X N L, [], 20⟩
def dnH1 (R : Nat → RT) (X : Nat → Nat) (N : Int) (L : RT) (p : Nat) (was i : Int) : St := ⟨(20, .v (.bool (decide (i < (L.n : Int))))) :: dnE L p was i, 86, donT R X N L, [], 20⟩
section
variable (R : Nat → RT) (X : Nat → Nat) (N : Int) (L : RT) (p : Nat)
theorem dnv0 (T : St → Prop) : vc Tryz.prog dnS noI (sL (bodyOf Tryz.f11)) ⟨[(0, .ptr 0 0), (1, .slc 1 0 L.n p 6)], 86, donT R X N L, [], 20⟩ (pr (fun st' => stL st' (dnI0 R X N L p)) nope 0 T) = stL (dnI0 R X N L p) (dnI0 R X N L p) := by kernel_rfl
theorem dnv1 (T : St → Prop) : vc Tryz.prog dnS noI (sL (sR (bodyOf Tryz.f11))) (dnI0 R X N L p) (pr (fun st' => stL st' (dnI0 R X N L p)) nope 0 T) = stL (dnI0 R X N L p) (dnI0 R X N L p) := by kernel_rfl
theorem dnv3 (T : St → Prop) : vc Tryz.prog dnS noI (sL (sR (sR (bodyOf Tryz.f11)))) (dnI0 R X N L p) (pr (fun st' => stL st' (dnB R X N L p N)) nope 0 T) = stL (dnB R X N L p N) (dnB R X N L p N) := by kernel_rfl
theorem dnv4 (was : Int) (T : St → Prop) : vc Tryz.prog dnS noI (sL (donF (bodyOf Tryz.f11))) (dnB R X N L p was) (pr (fun st' => stL st' (dnH R X N L p was 0)) nope 0 T) = stL (dnH R X N L p was 0) (dnH R X N L p was 0) := by kernel_rfl
theorem dnv5 (was i : Int) (T Z : St → Prop) (id : Nat) : vc Tryz.prog dnS noI (sL (bB (sR (donF (bodyOf Tryz.f11))))) (dnH R X N L p was i) (pr (fun st' => stL st' (dnH1 R X N L p was i)) Z id T) = stL (dnH1 R X N L p was i) (dnH1 R X N L p was i) := by kernel_rfl
theorem dnvH (was i : Int) (T : St → Prop) (D : Prop) : vc Tryz.prog dnS noI (sL (sR (bB (sR (donF (bodyOf Tryz.f11)))))) (dnH1 R X N L p was i) (pr (fun st' => i < (L.n : Int) ∧ stL st' (dnH R X N L p was i)) (fun st' => D ∧ stL st' (dnH R X N L p was i)) 0 T) =
    bc (decide (i < (L.n : Int))) (i < (L.n : Int) ∧ stL (dnH R X N L p was i) (dnH R X N L p was i)) (Nat.beq 0 0 = true ∧ D ∧ stL (dnH R X N L p was i) (dnH R X N L p was i)) := by kernel_rfl
theorem dnv6 (was i : Int) (T Z : St → Prop) (id : Nat) : vc Tryz.prog dnS noI (sL (don1 (bodyOf Tryz.f11))) (dnH R X N L p was i) (pr (fun st' => stL st' (dnC R X N L p was i (L.c (0 + i.toNat)) (L.s (0 + i.toNat)) (L.k (0 + i.toNat)) (L.e (0 + i.toNat)) (L.nm (0 + i.toNat)) (L.b (0 + i.toNat)))) Z id T) =
    ob (decide (0 ≤ i) && decide (i < (L.n : Int))) (ob true (ob (decide (0 + i.toNat < L.n)) (stL (dnC R X N L p was i (L.c (0 + i.toNat)) (L.s (0 + i.toNat)) (L.k (0 + i.toNat)) (L.e (0 + i.toNat)) (L.nm (0 + i.toNat)) (L.b (0 + i.toNat))) (dnC R X N L p was i (L.c (0 + i.toNat)) (L.s (0 + i.toNat)) (L.k (0 + i.toNat)) (L.e (0 + i.toNat)) (L.nm (0 + i.toNat)) (L.b (0 + i.toNat)))))) := by kernel_rfl
theorem dnv13 (was i i' : Int) (y : DY) (T Z : St → Prop) (id : Nat) : vc Tryz.prog dnS noI (sR (sR (sR (bB (sR (donF (bodyOf Tryz.f11))))))) (dnH R X N L p was i) (pr (fun st' => stL st' (dnH y.R y.X y.N L p was i')) Z id T) = stL (dnH R X N L p was (IntKind.i64.wrap (i + 1))) (dnH y.R y.X y.N L p was i') := by kernel_rfl
theorem dnv14 (was i : Int) (K : SV → List Blk → List Nat → Prop) : vc Tryz.prog dnS noI (sR (sR (sR (sR (bodyOf Tryz.f11))))) (dnH R X N L p was i) (endQ Tryz.prog Tryz.f11 K) = K (.v (.int .i64 (IntKind.i64.wrap (was - N)))) (donT R X N L) [] := by kernel_rfl
theorem dnS_ok : SpecsOK Tryz.prog dnS := .cons pcheckG_ok (.cons findS_ok (.cons deleteH_ok .nil))
theorem dnt_ok : okST (donT R X N L) := by
  refine ⟨⟨trivial, trivial, trivial, trivial⟩, trivial, fun y hy => ⟨fun h => Bool.noConfusion h, ?_⟩, fun y hy => ⟨fun _ => ?_, ?_⟩, tabs_ok R⟩
  · obtain ⟨z, hz, rfl⟩ := List.mem_map.1 hy
    exact Nat.le_refl _
  · obtain ⟨z, hz, rfl⟩ := List.mem_map.1 hy
    rfl
  · obtain ⟨z, hz, rfl⟩ := List.mem_map.1 hy
    trivial
theorem dnI0_self (hp : L.n ≤ p) : stL (dnI0 R X N L p) (dnI0 R X N L p) := stL_self _ (by kernel_rfl) ⟨trivial, hp, trivial⟩ (dnt_ok R X N L)
theorem dnB_self (hp : L.n ≤ p) (was : Int) : stL (dnB R X N L p was) (dnB R X N L p was) := stL_self _ (by kernel_rfl) ⟨trivial, trivial, hp, trivial⟩ (dnt_ok R X N L)
theorem dnH_self (hp : L.n ≤ p) (was i : Int) : stL (dnH R X N L p was i) (dnH R X N L p was i) := stL_self _ (by kernel_rfl) ⟨trivial, trivial, hp, trivial, trivial, trivial⟩ (dnt_ok R X N L)
theorem dnH1_self (hp : L.n ≤ p) (was i : Int) : stL (dnH1 R X N L p was i) (dnH1 R X N L p was i) := stL_self _ (by kernel_rfl) ⟨trivial, trivial, trivial, hp, trivial, trivial, trivial⟩ (dnt_ok R X N L)
theorem dnC_self (hp : L.n ≤ p) (was i : Int) (c s k e : Int) (n b : ByteArray) : stL (dnC R X N L p was i c s k e n b) (dnC R X N L p was i c s k e n b) := stL_self _ (by kernel_rfl) ⟨trivial, trivial, trivial, hp, trivial, trivial, trivial⟩ (okST_app (dnt_ok R X N L) ⟨⟨trivial, trivial, trivial, trivial, trivial, trivial, trivial⟩, trivial⟩)
end

end Go.Proofs.YtmnenigmkfnciaaGreatDoor.Sx
/- pool: Done by contract. No condition. -/
namespace Go.Proofs.YtmnenigmkfnciaaGreatDoor.Sx
open Go Go.Proofs
set_option maxRecDepth 100000
set_option linter.unusedSimpArgs false
set_option linter.unusedVariables false

theorem dnT_eq (R : Nat → RT) (X : Nat → Nat) (N : Int) (s : Int) (L : RT) : ∀ c : Nat, c < 16 → dnT R X N c s ((1 : Nat) : Int) (R c) L = donK (insK (.c .i64 c16L (hasQ R X)) (.i .i64 (c : Int))) (insK (.c .i64 c16L (hasX X)) (.i .i64 (c : Int)))
  (fun v => mixS (keq (.int .i64 (c : Int)) v) (.slc (4 + c) 0 ((R c).n - 1) (R c).n 6) (gPoolO 1 R v)) (fun v => mixS (keq (.int .i64 (c : Int)) v) (.v (.int .i64 (dnX X c s))) (gNext X v)) (updR R c (R c).del) (IntKind.i64.wrap (N - ((1 : Nat) : Int))) L
  | 0, _ => rfl
  | 1, _ => rfl
  | 2, _ => rfl
  | 3, _ => rfl
  | 4, _ => rfl
  | 5, _ => rfl
  | 6, _ => rfl
  | 7, _ => rfl
  | 8, _ => rfl
  | 9, _ => rfl
  | 10, _ => rfl
  | 11, _ => rfl
  | 12, _ => rfl
  | 13, _ => rfl
  | 14, _ => rfl
  | 15, _ => rfl
  | n + 16, h => absurd h (by omega)
theorem insK_c (f : Int → Bool) (c : Nat) (hc : c < 16) : insK (.c .i64 c16L f) (.i .i64 (c : Int)) = .c .i64 c16L fun y => (y == (c : Int)) || f y := by
  simp only [insK, has_c c hc]
theorem dn_ks (R : Nat → RT) (X : Nat → Nat) (c v : Nat) (r : RT) (hc : c < 16) (hv : 0 < v) : ksEq (insK (.c .i64 c16L (hasQ R X)) (.i .i64 (c : Int))) (.c .i64 c16L (hasQ (updR R c r) (updX X c v))) := by
  rw [insK_c _ c hc]
  refine ⟨rfl, rfl, fun y hy => ?_⟩
  have := mem16 hy
  unfold hasQ
  by_cases h : y = (c : Int)
  · subst h
    rw [show ((c : Int)).toNat = c from by omega, updR_eq, updX_eq, show Nat.blt 0 v = true from by simpa [Nat.blt_eq] using hv]
    simp
  · rw [updR_ne R r (show y.toNat ≠ c by omega), updX_ne X v (show y.toNat ≠ c by omega)]
    simp [h]
theorem dn_kx (X : Nat → Nat) (c v : Nat) (hc : c < 16) (hv : 0 < v) : ksEq (insK (.c .i64 c16L (hasX X)) (.i .i64 (c : Int))) (.c .i64 c16L (hasX (updX X c v))) := by
  rw [insK_c _ c hc]
  refine ⟨rfl, rfl, fun y hy => ?_⟩
  have := mem16 hy
  unfold hasX
  by_cases h : y = (c : Int)
  · subst h
    rw [show ((c : Int)).toNat = c from by omega, updX_eq, show Nat.blt 0 v = true from by simpa [Nat.blt_eq] using hv]
    simp
  · rw [updX_ne X v (show y.toNat ≠ c by omega)]
    simp [h]
theorem keq_ne {a b : Int} (h : a ≠ b) : keq (.int .i64 a) (.int .i64 b) = false := by
  cases hb : keq (.int .i64 a) (.int .i64 b) with
  | false => rfl
  | true => have := keq_iff hb; simp at this; omega
theorem dn_h (R : Nat → RT) (c : Nat) : ∀ y ∈ c16L, SV.le (mixS (keq (.int .i64 (c : Int)) (.int .i64 y)) (.slc (4 + c) 0 ((R c).n - 1) (R c).n 6) (gPoolO 1 R (.int .i64 y))) (gPoolO 1 (updR R c (R c).del) (.int .i64 y)) := by
  intro y hy
  have := mem16 hy
  by_cases h : y = (c : Int)
  · subst h
    rw [show keq (.int .i64 (c : Int)) (.int .i64 (c : Int)) = true from keq_self (.i .i64 (c : Int)), mixS_t]
    simp only [gPoolO]
    rw [show ((c : Int)).toNat = c from by omega, updR_eq]
    exact ⟨by omega, rfl, rfl, Nat.sub_le _ _, Nat.le_refl _, rfl⟩
  · rw [keq_ne (fun e => h e.symm), mixS_f]
    simp only [gPoolO]
    rw [updR_ne R _ (show y.toNat ≠ c by omega)]
    exact slc_le _ _
theorem dn_k (X : Nat → Nat) (c v : Nat) (z : Int) (hz : z = (v : Nat)) : ∀ y ∈ c16L, mixS (keq (.int .i64 (c : Int)) (.int .i64 y)) (.v (.int .i64 z)) (gNext X (.int .i64 y)) = gNext (updX X c v) (.int .i64 y) := by
  intro y hy
  have := mem16 hy
  subst hz
  by_cases h : y = (c : Int)
  · subst h
    rw [show keq (.int .i64 (c : Int)) (.int .i64 (c : Int)) = true from keq_self (.i .i64 (c : Int)), mixS_t]
    simp only [gNext]
    rw [show ((c : Int)).toNat = c from by omega, updX_eq]
  · rw [keq_ne (fun e => h e.symm), mixS_f]
    simp only [gNext]
    rw [updX_ne X v (show y.toNat ≠ c by omega)]
theorem donK_le {ks kx : KS} {h k : Value → SV} {R : Nat → RT} {X : Nat → Nat} {N : Int} {L : RT} (hks : ksEq ks (.c .i64 c16L (hasQ R X))) (hkx : ksEq kx (.c .i64 c16L (hasX X))) (hh : ∀ y ∈ c16L, SV.le (h (.int .i64 y)) (gPoolO 1 R (.int .i64 y))) (hk : ∀ y ∈ c16L, k (.int .i64 y) = gNext X (.int .i64 y))
    {m m' : List Blk} {K : Prop} (hm : tblLeK m m' K) : tblLeK (donK ks kx h k R N L ++ m) (donT R X N L ++ m') K := by
  refine blkLeK_self (.cells true [.mp 2, .mp 3, .v (.int .i64 N)]) _ ⟨trivial, trivial, trivial, trivial⟩ ?_
  refine blkLeK_self (.tab true L.n L.cols) _ trivial ?_
  show blkLeK (.map true false ks h) (.map true false (.c .i64 c16L (hasQ R X)) (gPoolO 1 R)) (blkLeK (.map true true kx k) (.map true true (.c .i64 c16L (hasX X)) (gNext X)) _)
  simp only [blkLeK]
  refine ob_mk rfl (ksEqK_of hks ⟨fun y hy => ?_, ob_mk rfl (ksEqK_of hkx ⟨fun y hy => ?_, tblLeK_app _ m m' K (tabs_ok R) hm⟩)⟩)
  · obtain ⟨z, hz, rfl⟩ := List.mem_map.1 hy
    exact hh z hz
  · obtain ⟨h1, h2⟩ := next_le' k X y hk hy
    exact ⟨h1 rfl, h2⟩
theorem dnT_le (R : Nat → RT) (X : Nat → Nat) (N : Int) (s : Int) (L : RT) (c v : Nat) (hc : c < 16) (hv : 0 < v) (hx : dnX X c s = (v : Nat)) (hN : -1000000 ≤ N ∧ N ≤ 2000000) :
    tblLeK (dnT R X N c s ((1 : Nat) : Int) (R c) L) (donT (updR R c (R c).del) (updX X c v) (N - 1) L) True := by
  rw [dnT_eq R X N s L c hc, show IntKind.i64.wrap (N - ((1 : Nat) : Int)) = N - 1 from wrap_i64 _ (by omega) (by omega)]
  have := donK_le (h := fun v => mixS (keq (.int .i64 (c : Int)) v) (.slc (4 + c) 0 ((R c).n - 1) (R c).n 6) (gPoolO 1 R v)) (k := fun v => mixS (keq (.int .i64 (c : Int)) v) (.v (.int .i64 (dnX X c s))) (gNext X v)) (L := L) (N := N - 1) (dn_ks R X c v (R c).del hc hv) (dn_kx X c v hc hv) (dn_h R c) (dn_k X c v _ hx) (m := []) (m' := []) (K := True) trivial
  rw [List.append_nil, List.append_nil] at this
  exact this
theorem dnF_le (R : Nat → RT) (X : Nat → Nat) (N : Int) (L : RT) (p : Nat) (hp : L.n ≤ p) (was i s : Int) (c v : Nat) (hc : c < 16) (hv : 0 < v) (hx : dnX X c s = (v : Nat)) (hN : -1000000 ≤ N ∧ N ≤ 2000000) :
    stL ⟨dnE L p was i, 86, dnT R X N c s ((1 : Nat) : Int) (R c) L, [], 20⟩ (dnH (updR R c (R c).del) (updX X c v) (N - 1) L p was i) := by
  refine stL_of (by rw [dnT_eq R X N s L c hc]; kernel_rfl) (fun K hK => ?_) (dnT_le R X N s L c v hc hv hx hN)
  exact leK_self (.v (.int .i64 i)) _ trivial (leK_self (inat L.n) _ trivial (leK_self (.slc 1 0 L.n p 6) _ hp (leK_self (.v (.int .i64 was)) _ trivial (leK_self (.ptr 0 0) _ trivial hK))))
def inPoolL (blks : List Blk) (R : Nat → RT) (X : Nat → Nat) (N : Int) (L : RT) : Prop := tblLe blks (donT R X N L) ∧ Nat.beq blks.length 20 = true
def doneL : Spec := .m fun args blks K => match args with
  | [.ptr 0 0, .slc 1 0 m p 6] => ∃ (R : Nat → RT) (X : Nat → Nat) (N : Int) (L : RT), inPoolL blks R X N L ∧ okP R X ∧ PickOK R L ∧ ob ((Nat.beq L.n m && Nat.ble m p) && ((decide (-900000 ≤ N) && decide (N ≤ 1000000)) && decide (m ≤ 8)))
      (∀ (R' : Nat → RT) (X' : Nat → Nat), dnI R X L L.n R' X' → K (.v (.int .i64 (L.n : Nat))) (donT R' X' (N - (L.n : Nat)) L) [])
  | _ => False
theorem done_body (R : Nat → RT) (X : Nat → Nat) (N : Int) (L : RT) (p : Nat) (hp : L.n ≤ p) (hn : L.n ≤ 8) (hN : -900000 ≤ N ∧ N ≤ 1000000) (hP : okP R X) (hpk : PickOK R L) (i : Nat) (hi : i < L.n) (y : DY) (hI : dnI R X L i y.R y.X ∧ y.N = N - (i : Nat)) (T Z : St → Prop) (id : Nat) :
    Tr Tryz.prog (sR (sR (bB (sR (donF (bodyOf Tryz.f11)))))) (dnH y.R y.X y.N L p N (i : Int)) (pr (fun st' => ∃ y' : DY, (dnI R X L (i + 1) y'.R y'.X ∧ y'.N = N - ((i + 1 : Nat) : Int)) ∧ stL st' (dnH y'.R y'.X y'.N L p N ((i + 1 : Nat) : Int))) Z id T) := by
  obtain ⟨hI, hyN⟩ := hI
  have hI' := hI
  unfold dnI at hI'
  have hok := hI'.1
  obtain ⟨c, hc, hLc, hcnt, ⟨hrc, hrs⟩, _⟩ := (show ∃ q : Nat, _ from hpk i hi)
  obtain ⟨a1, a2, a3, a4, a5⟩ := dnI_head hI hpk hi hLc hc
  have hrows := hok c hc
  obtain ⟨hris, hle4, hrow⟩ := hrows
  refine TrR.nx (N1 := fun st' => ∃ y' : DY, (dnI R X L (i + 1) y'.R y'.X ∧ y'.N = N - ((i + 1 : Nat) : Int)) ∧ stL st' (dnH y'.R y'.X y'.N L p N (i : Int))) (by kernel_rfl) ?_ ?_
  · refine TrR.blkX (i := 1) (Z := nope) (by kernel_rfl) ?_ fun st h => h.elim
    refine TrR.nx (by kernel_rfl) (TrR.leaf mixed dnS_ok (dnv6 y.R y.X y.N L p N i T _ _) ?_) fun st' h => Tr.le h ?_
    · exact ob_mk (by simp only [Bool.and_eq_true, decide_eq_true_eq]; omega) (ob_mk rfl (ob_mk (decide_eq_true (by omega)) (dnC_self y.R y.X y.N L p hp N i _ _ _ _ _ _)))
    · rw [show 0 + ((i : Nat) : Int).toNat = i from by omega, hLc]
      refine TrR.leaf mixed dnS_ok (dnv7 y.R y.X y.N L p N i (L.s i) (L.k i) (L.e i) (L.nm i) (L.b i) T (fun y' => dnI R X L (i + 1) y'.R y'.X ∧ y'.N = N - ((i + 1 : Nat) : Int)) nope c hc) ?_
      have hreq : reqOK (c : Int) (L.s i) (L.k i) (L.e i) (L.nm i) (L.b i) = true := by
        have := (pick_all hP hpk).1 i hi
        rw [hLc] at this
        exact this
      have hlc : lenC y.R y.X c = (y.R c).n := has_len y.R y.X c (has_c c hc)
      have hx : dnX y.X c (L.s i) = (((L.s i + 1).toNat : Nat) : Int) := by
        unfold dnX
        rw [next_val y.X c (has_c c hc), wrap_i64 _ (by omega) (by omega)]
        unfold mx
        split <;> omega
      rw [hlc]
      refine ob_mk hreq ⟨y.R c, rfl, hris, ob_mk (by simp only [Nat.beq_refl, Bool.true_and, Bool.and_eq_true, decide_eq_true_eq]; omega) fun j f hpl => ?_⟩
      have hj : j = 1 := by
        rw [hx, show (((L.s i + 1).toNat : Nat) : Int) = (y.R c).s 0 + 1 from by omega] at hpl
        exact place_one hris a1 hpl
      subst hj
      refine ob_mk rfl ⟨y.R c, rfl, ob_mk (by simp only [Nat.beq_refl, Bool.true_and, Bool.and_eq_true, decide_eq_true_eq]; omega) (ob_mk rfl (ob_mk rfl ⟨⟨updR y.R c (y.R c).del, updX y.X c (L.s i + 1).toNat, y.N - 1⟩, ⟨dnI_step hI hpk hi hLc hc, by dsimp only; omega⟩, dnF_le y.R y.X y.N L p hp N i (L.s i) c (L.s i + 1).toNat hc (by omega) hx (by omega)⟩))⟩
  · rintro st' ⟨y', h1, h2⟩
    refine Tr.le h2 (TrR.norm (TrR.leaf mixed dnS_ok (dnv13 y'.R y'.X y'.N L p N i ((i + 1 : Nat) : Int) y' T _ _) ?_) fun st h => ⟨y', h1, h⟩)
    rw [show IntKind.i64.wrap ((i : Int) + 1) = ((i + 1 : Nat) : Int) from by rw [wrap_i64 _ (by omega) (by omega)]; omega]
    exact dnH_self y'.R y'.X y'.N L p hp N _
theorem done_ok (R : Nat → RT) (X : Nat → Nat) (N : Int) (L : RT) (p : Nat) (hp : L.n ≤ p) (hn : L.n ≤ 8) (hN : -900000 ≤ N ∧ N ≤ 1000000) (hP : okP R X) (hpk : PickOK R L) (K : SV → List Blk → List Nat → Prop)
    (hK : ∀ (R' : Nat → RT) (X' : Nat → Nat), dnI R X L L.n R' X' → K (.v (.int .i64 (L.n : Nat))) (donT R' X' (N - (L.n : Nat)) L) []) :
    FnOK Tryz.prog 11 [.ptr 0 0, .slc 1 0 L.n p 6] (donT R X N L) K := by
  have h00 : dnI R X L 0 R X ∧ N = N - ((0 : Nat) : Int) := ⟨dnI_0 L hP, by omega⟩
  refine FnOK.of_tr (c := bodyOf Tryz.f11) Tryz.func11 (by kernel_rfl) (by kernel_rfl) ?_
  show Tr Tryz.prog (bodyOf Tryz.f11) ⟨[(0, .ptr 0 0), (1, .slc 1 0 L.n p 6)], 86, donT R X N L, [], 20⟩ _
  refine TrR.top (by kernel_rfl) (TrR.leaf mixed dnS_ok (dnv0 R X N L p _) (dnI0_self R X N L p hp)) fun st' h => Tr.le h ?_
  refine TrR.top (by kernel_rfl) (TrR.leaf mixed dnS_ok (dnv1 R X N L p _) (dnI0_self R X N L p hp)) fun st' h => Tr.le h ?_
  refine TrR.top (by kernel_rfl) (TrR.leaf mixed dnS_ok (dnv3 R X N L p _) (dnB_self R X N L p hp N)) fun st' h => Tr.le h ?_
  refine TrR.top (N1 := fun st' => ∃ (i : Int) (y : DY), (dnI R X L L.n y.R y.X ∧ y.N = N - (L.n : Nat)) ∧ stL st' (dnH y.R y.X y.N L p N i)) (by kernel_rfl) ?_ ?_
  · refine TrR.nx (by kernel_rfl) (TrR.leaf mixed dnS_ok (dnv4 R X N L p N _) (dnH_self R X N L p hp N 0)) fun st' h => Tr.le h ?_
    refine TrR.loop (i := 0) (Z := fun st' => ∃ (i : Int) (y : DY), (dnI R X L L.n y.R y.X ∧ y.N = N - (L.n : Nat)) ∧ stL st' (dnH y.R y.X y.N L p N i)) L.n (fun (i : Nat) (y : DY) => dnI R X L i y.R y.X ∧ y.N = N - (i : Nat)) (fun (i : Nat) (y : DY) => dnH y.R y.X y.N L p N (i : Int)) (⟨R, X, N⟩ : DY) (by kernel_rfl) h00 (dnH_self R X N L p hp N 0) ?_ fun _ h => h
    intro i hi y hI
    refine TrR.nx (by kernel_rfl) (TrR.leaf mixed dnS_ok (dnv5 y.R y.X y.N L p N i _ _ _) (dnH1_self y.R y.X y.N L p hp N i)) fun st' h => Tr.le h ?_
    refine TrR.nx (by kernel_rfl) (TrR.both (TrR.leaf mixed dnS_ok (dnvH y.R y.X y.N L p N i _ (i = L.n)) (bc_mk (fun h => ⟨of_decide_eq_true h, dnH_self y.R y.X y.N L p hp N i⟩) (fun h => ⟨rfl, by have := of_decide_eq_false h; omega, dnH_self y.R y.X y.N L p hp N i⟩))) (fun st h => h) fun st ⟨h, h'⟩ => ⟨i, y, by subst h; exact hI, h'⟩) ?_
    rintro st' ⟨hil, h⟩
    have hil : i < L.n := by omega
    exact Tr.le h (TrR.both (done_body R X N L p hp hn hN hP hpk i hil y hI _ _ _) (fun st h => ⟨hil, h⟩) fun st h => h)
  · rintro st' ⟨i, y, ⟨h1, h2⟩, h⟩
    refine Tr.le h (TrR.fin mixed dnS_ok (dnv14 y.R y.X y.N L p N i K) ?_)
    rw [h2, show IntKind.i64.wrap (N - (N - ((L.n : Nat) : Int))) = ((L.n : Nat) : Int) from by rw [wrap_i64 _ (by omega) (by omega)]; omega]
    exact hK y.R y.X h1
theorem doneL_ok : SpecOK Tryz.prog 11 doneL := by
  refine ⟨enters_of Tryz.func11 rfl rfl, fun args blks K h => ?_⟩
  dsimp only at h
  split at h
  case h_2 => exact h.elim
  rename_i m p
  obtain ⟨R, X, N, L, hin, hP, hpk, h⟩ := h
  rw [inPoolL] at hin
  obtain ⟨hle, hlen⟩ := hin
  rw [ob_iff] at h
  simp only [Bool.and_eq_true, decide_eq_true_eq, Nat.beq_eq, Nat.ble_eq] at h
  obtain ⟨⟨⟨rfl, hp⟩, hN, hm8⟩, hK⟩ := h
  have hlen := Nat.eq_of_beq_eq_true hlen
  refine FnOK.pre hle (by rw [Bool.and_eq_true]; exact ⟨by kernel_rfl, by rw [hlen]; rfl⟩) ?_
  exact done_ok R X N L p hp hm8 hN hP hpk K hK

end Go.Proofs.YtmnenigmkfnciaaGreatDoor.Sx
