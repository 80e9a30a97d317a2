/- TopLinks: the law's code piece by piece. No condition. -/
import Derived.Test.YtpdkchpjekglaaaGreatSx14
import Derived.Test.YtpdkchpjekglaaaGreatSx13
import Derived.Test.YtpdkchpjekglaaaGreatProg
import Derived.Test.YtpdkchpjekglaaaGreatBase
import Derived.Test.YtpdkchpjekglaaaGreatMA
import Derived.Test.YtpdkchpjekglaaaGreatMB
import Derived.Test.YtpdkchpjekglaaaGreatMC
import Derived.Test.YtpdkchpjekglaaaGreatMD
import Derived.Test.YtpdkchpjekglaaaGreatME
import Derived.Test.YtpdkchpjekglaaaGreatMF
import Derived.Test.YtpdkchpjekglaaaGreatMG
/- TopLinks: the law's own function, by its calls' contracts. No condition. -/
namespace Go.Proofs.YtpdkchpjekglaaaGreat.Sx
open Go Go.Proofs
set_option maxRecDepth 100000
set_option linter.unusedSimpArgs false
set_option linter.unusedVariables false

structure LX where
  q : Nat
  st : Nat → ByteArray
  a : PS
  b : PS
/-- Blocks of this function's own that may have moved. -/
def tlMv : List Nat := [8, 9, 16, 17, 40, 23, 24, 25, 26, 27, 28, 29, 30, 31, 32, 33, 34, 35, 36, 37, 38]
def tlB (r : RT) (m : Nat) (lf : Nat → Int) (x : LX) (w : List Blk) : List Blk := .tab false r.n r.cols :: .tab false m [.i .i64 lf] :: (x.a.at 2 ++ (x.b.at 10 ++ (.tab true x.q [.s x.st] :: w)))
def tlE (r : RT) (m cr cl : Nat) (i : Int) (x : LX) : Env := [(8, .v (.int .i64 i)), (7, .slc 18 0 x.q x.q 1), (6, .ptr 10 0), (5, .ptr 2 0), (1, .slc 1 0 m cl 1), (0, .slc 0 0 r.n cr 6)]
def tlH (r : RT) (m cr cl : Nat) (lf : Nat → Int) (i : Int) (x : LX) : St := ⟨tlE r m cr cl i x, 212, tlB r m lf x [], tlMv, 2⟩
def gPoolA (R : Nat → RT) : Value → SV := fun v => match v with
  | .int .i64 c => .slc (23 + c.toNat) 0 (R c.toNat).n (R c.toNat).n 6
  | _ => .unk
/-- The pool's memory, from block 20 on. -/
def poolB (h : Value → SV) (R : Nat → RT) (N : Int) : List Blk := [.cells true [.mp 21, .mp 22, .v (.int .i64 N)], .map true false (.c .i64 c16L (hasR R)) h, .map true true (.i .i64 []) (fun _ => .v (.int .i64 0)),
  .tab true (R 0).n (R 0).cols, .tab true (R 1).n (R 1).cols, .tab true (R 2).n (R 2).cols, .tab true (R 3).n (R 3).cols, .tab true (R 4).n (R 4).cols, .tab true (R 5).n (R 5).cols, .tab true (R 6).n (R 6).cols, .tab true (R 7).n (R 7).cols, .tab true (R 8).n (R 8).cols, .tab true (R 9).n (R 9).cols, .tab true (R 10).n (R 10).cols, .tab true (R 11).n (R 11).cols, .tab true (R 12).n (R 12).cols, .tab true (R 13).n (R 13).cols, .tab true (R 14).n (R 14).cols, .tab true (R 15).n (R 15).cols]
def poolA (R : Nat → RT) (N : Int) : List Blk := poolB (gPoolA R) R N
/-- Inside a round: the round's number, frames, what is told of both ends. -/
structure LY where
  i : Nat
  m : Nat
  f : Nat → ByteArray
  x : LX
structure LW where
  m : Nat
  f : Nat → ByteArray
  r : RT
  R : Nat → RT
def tlA (r : RT) (m cr cl : Nat) (lf : Nat → Int) : St := ⟨[(1, .slc 1 0 m cl 1), (0, .slc 0 0 r.n cr 6)], 212, [.tab false r.n r.cols, .tab false m [.i .i64 lf]], tlMv, 2⟩
def tlA3 (r : RT) (m cr cl : Nat) (lf : Nat → Int) : St := ⟨[(6, .ptr 10 0), (5, .ptr 2 0), (1, .slc 1 0 m cl 1), (0, .slc 0 0 r.n cr 6)], 212, .tab false r.n r.cols :: .tab false m [.i .i64 lf] :: (p0.at 2 ++ p0.at 10), tlMv, 2⟩
def tlA4 (r : RT) (m cr cl : Nat) (lf : Nat → Int) : St := ⟨[(7, .v (.slice none 0 0)), (6, .ptr 10 0), (5, .ptr 2 0), (1, .slc 1 0 m cl 1), (0, .slc 0 0 r.n cr 6)], 212, .tab false r.n r.cols :: .tab false m [.i .i64 lf] :: (p0.at 2 ++ p0.at 10), tlMv, 2⟩
def tl9 (r : RT) (m cr cl : Nat) (lf : Nat → Int) (i : Int) (x : LX) (s : ByteArray) (e : Int) : St := ⟨(10, .v (.int .i64 e)) :: (9, .v (.string s)) :: tlE r m cr cl i x, 212, tlB r m lf x [], tlMv, 2⟩
def tl11 (r : RT) (m cr cl : Nat) (lf : Nat → Int) (y : LY) : St := ⟨(11, .slc 19 0 y.m y.m 1) :: tlE r m cr cl y.i y.x, 212, tlB r m lf y.x [.tab true y.m [.s y.f]], tlMv, 2⟩
def tl2 (r : RT) (m cr cl : Nat) (lf : Nat → Int) (j : Int) (y : LY) : St := ⟨(12, .v (.int .i64 j)) :: (11, .slc 19 0 y.m y.m 1) :: tlE r m cr cl y.i y.x, 212, tlB r m lf y.x [.tab true y.m [.s y.f]], tlMv, 2⟩
def tl3 (r : RT) (m cr cl : Nat) (lf : Nat → Int) (j : Int) (g : Bool) (y : LY) : St := ⟨(13, .v (.bool g)) :: (12, .v (.int .i64 j)) :: (11, .slc 19 0 y.m y.m 1) :: tlE r m cr cl y.i y.x, 212, tlB r m lf y.x [.tab true y.m [.s y.f]], tlMv, 2⟩
def tl4 (r : RT) (m cr cl : Nat) (lf : Nat → Int) (j : Int) (y : LY) (k : Int) (g : Bool) : St := ⟨(14, .v (.int .i64 k)) :: (13, .v (.bool g)) :: (12, .v (.int .i64 j)) :: (11, .slc 19 0 y.m y.m 1) :: tlE r m cr cl y.i y.x, 212, tlB r m lf y.x [.tab true y.m [.s y.f]], tlMv, 2⟩
def tl15 (r : RT) (m cr cl : Nat) (lf : Nat → Int) (y : LY) : St := ⟨(15, .slc 19 0 y.m y.m 1) :: tlE r m cr cl y.i y.x, 212, tlB r m lf y.x [.tab true y.m [.s y.f]], tlMv, 2⟩
def tl6 (r : RT) (m cr cl : Nat) (lf : Nat → Int) (j : Int) (y : LY) : St := ⟨(16, .v (.int .i64 j)) :: (15, .slc 19 0 y.m y.m 1) :: tlE r m cr cl y.i y.x, 212, tlB r m lf y.x [.tab true y.m [.s y.f]], tlMv, 2⟩
def dead18 : List Blk := [.dead, .dead, .dead, .dead, .dead, .dead, .dead, .dead, .dead, .dead, .dead, .dead, .dead, .dead, .dead, .dead, .dead, .dead]
def tl17 (x : LX) (mm : Nat) (f : Nat → ByteArray) : St := ⟨[(17, .slc 19 0 mm mm 1), (7, .slc 18 0 x.q x.q 1)], 212, dead18 ++ [.tab true x.q [.s x.st], .tab true mm [.s f]], tlMv, 2⟩
def tl31 (mm : Nat) (f : Nat → ByteArray) : St := ⟨[(17, .slc 19 0 mm mm 1)], 212, dead18 ++ [.dead, .tab true mm [.s f]], tlMv, 2⟩
def tl33 (w : LW) : St := ⟨[(19, .ptr 39 0), (18, .ptr 20 0), (17, .slc 19 0 w.m w.m 1)], 212, dead18 ++ (.dead :: .tab true w.m [.s w.f] :: (poolA w.R (w.r.n : Int) ++ [.cells true (.slc 40 0 w.r.n w.r.n 6 :: lastM), .tab true w.r.n w.r.cols])), tlMv, 2⟩
def tlN (h : Value → SV) (j : Int) (m : Nat) (f : Nat → ByteArray) (r : RT) (R : Nat → RT) (N : Int) : St := ⟨[(20, .v (.int .i64 j)), (19, .ptr 39 0), (18, .ptr 20 0), (17, .slc 19 0 m m 1)], 212, dead18 ++ (.dead :: .tab true m [.s f] :: (poolB h R N ++ [.cells true (.slc 40 0 r.n r.n 6 :: lastM), .tab true r.n r.cols])), tlMv, 2⟩
def tl8 (j : Int) (w : LW) : St := tlN (gPoolA w.R) j w.m w.f w.r w.R (w.r.n : Int)
def tlS : Specs := [(4, closedS), (5, newPipeS), (6, encodeS), (7, firstS), (8, sendL), (9, pollL), (10, takeL), (11, toldS), (12, textsEqS), (13, newPoolS), (14, new42S), (15, decodeS), (16, put42S), (17, poolPutL), (18, plenS)]
def LX.sa (x : LX) (p : PS) : LX := ⟨x.q, x.st, p, x.b⟩
def LX.sb (x : LX) (p : PS) : LX := ⟨x.q, x.st, x.a, p⟩
def LY.sb (y : LY) (p : PS) : LY := ⟨y.i, y.m, y.f, y.x.sb p⟩
def LY.sa (y : LY) (p : PS) : LY := ⟨y.i, y.m, y.f, y.x.sa p⟩
def x00 : LX := ⟨0, fun _ => bstr [], p0, p0⟩
/-- What a Take comes to. -/
def takeP (a : PS) (t : ByteArray) (K : PS → Prop) : Prop := (∃ (q : Nat) (st : Nat → ByteArray) (p : PS), a.tbl true = p.tbl true ∧ invA q st p ∧ ackOK t ∧ (∀ p' : PS, invA q st p' → K p')) ∨
  (∃ (q : Nat) (st : Nat → ByteArray) (c : Nat) (p : PS), a.tbl true = p.tbl true ∧ invB q st c p ∧ frOK q st t ∧ c ≤ 900 ∧ (∀ p' : PS, invB q st (c + 1) p' → K p'))
/-- What a Poll comes to. -/
def pollP (a : PS) (i : Int) (K : PS → Nat → (Nat → ByteArray) → Prop) : Prop := (∃ (q : Nat) (st : Nat → ByteArray) (p : PS), a.tbl true = p.tbl true ∧ invA q st p ∧ ob (decide (0 ≤ i) && decide (i ≤ 1099511627776))
    (∀ (p' : PS) (m : Nat) (f : Nat → ByteArray), invA q st p' → m ≤ q + 1 ∧ (∀ j, j < m → frOK q st (f j)) → K p' m f)) ∨
  (∃ (q : Nat) (st : Nat → ByteArray) (c : Nat) (p : PS), a.tbl true = p.tbl true ∧ invB q st c p ∧ ob (decide (0 ≤ i) && decide (i ≤ 1099511627776))
    (∀ (p' : PS) (m : Nat) (f : Nat → ByteArray), invB q st c p' → m ≤ 1 ∧ (∀ j, j < m → ackOK (f j)) → K p' m f))
/-- What a Send comes to: of any error, of none. -/
def sendP (a : PS) (s : ByteArray) (K : Int → PS → Prop) (K0 : PS → Prop) : Prop := ∃ (q : Nat) (st : Nat → ByteArray) (p : PS), a.tbl true = p.tbl true ∧ invA q st p ∧ q ≤ 900 ∧
  ((∀ e : Int, e ≠ 0 → K e p) ∧ (s.size ≤ 4000 → ∀ p' : PS, invA (q + 1) (upF st q s) p' → K0 p'))
/-- The pool's memory as a call sees it. -/
def poolC (b : Bool) (h : Value → SV) (R : Nat → RT) (N : Int) : List Blk := [.cells b [.mp 1, .mp 2, .v (.int .i64 N)], .map b false (.c .i64 c16L (hasR R)) h, .map b true (.i .i64 []) (fun _ => .v (.int .i64 0)),
  .tab b (R 0).n (R 0).cols, .tab b (R 1).n (R 1).cols, .tab b (R 2).n (R 2).cols, .tab b (R 3).n (R 3).cols, .tab b (R 4).n (R 4).cols, .tab b (R 5).n (R 5).cols, .tab b (R 6).n (R 6).cols, .tab b (R 7).n (R 7).cols, .tab b (R 8).n (R 8).cols, .tab b (R 9).n (R 9).cols, .tab b (R 10).n (R 10).cols, .tab b (R 11).n (R 11).cols, .tab b (R 12).n (R 12).cols, .tab b (R 13).n (R 13).cols, .tab b (R 14).n (R 14).cols, .tab b (R 15).n (R 15).cols]
def L19 : List Nat := [20, 21, 22, 23, 24, 25, 26, 27, 28, 29, 30, 31, 32, 33, 34, 35, 36, 37, 38]
/-- What a request is worth to the reference, then to the pool. -/
def poolP (h : Value → SV) (w : LW) (c s k e : Int) (n b : ByteArray) (q : Int) (K : (Nat → RT) → Int → Prop) : Prop := ∃ (r1 : RT) (R : Nat → RT), inPool (poolC true h w.R (w.r.n : Int)) R (r1.n : Int) ∧ relPR r1 R ∧ ob (reqOK c s k e n b)
  ((refE r1 c s ≠ 0 → bc (refE r1 c s != q) (some (SV.v (.bool false)) = some (SV.v (.bool true))) (K R (r1.n : Int))) ∧
   (refE r1 c s = 0 → ∀ R' : Nat → RT, relPR (r1.push c s k e n b) R' → bc ((0 : Int) != q) (some (SV.v (.bool false)) = some (SV.v (.bool true))) (K R' ((r1.push c s k e n b).n : Int))))
def refP (w : LW) (c s k e : Int) (n b : ByteArray) (K : RT → (Nat → RT) → Int → Prop) : Prop := ∃ r : RT, [Blk.tab true w.r.n w.r.cols] = [Blk.tab true r.n r.cols] ∧ lastM = lastM ∧ ob ((Nat.beq r.n w.r.n && Nat.beq r.n w.r.n) && (decide (r.n ≤ 1000000) && reqOK c s k e n b))
  ((∀ q : Int, refE r c s = q → q ≠ 0 → poolP (fun v => SV.ren (pos L19) (gPoolA w.R v)) w c s k e n b q (K r)) ∧
   (refE r c s = 0 → poolP (fun v => SV.ren (pos L19) (SV.purge [40] (gPoolA w.R v))) w c s k e n b 0 (K (r.push c s k e n b))))
/- Pieces of the code. -/
def bodyOf (f : Func) : Code := match f.body with
  | some c => c
  | none => .skip
def b0 (c : Code) : Code := sR (sL (sR (sR (sR (sR c)))))
def b1 (c : Code) : Code := bB (sL (sR (bB (b0 c))))
def for2 (c : Code) : Code := sL (sR (sR (sR (sR (b1 c)))))
def b2 (c : Code) : Code := bB (sR (for2 c))
def b3 (c : Code) : Code := bB (sL (sR (b2 c)))
def for4 (c : Code) : Code := sL (sR (b3 c))
def b4 (c : Code) : Code := bB (sR (for4 c))
def for6 (c : Code) : Code := sR (sR (sR (sR (sR (sR (b1 c))))))
def b6 (c : Code) : Code := bB (sR (for6 c))
def tl5 (c : Code) : Code := sR (sR (sR (sR (sR c))))
def for8 (c : Code) : Code := sL (sR (sR (sR (tl5 c))))
def b8 (c : Code) : Code := bB (sR (for8 c))

end Go.Proofs.YtpdkchpjekglaaaGreat.Sx
/- TopLinks: its code's leaves. No condition. -/
namespace Go.Proofs.YtpdkchpjekglaaaGreat.Sx
open Go Go.Proofs
set_option maxRecDepth 100000
set_option linter.unusedSimpArgs false
set_option linter.unusedVariables false

theorem vA0 (r : RT) (m cr cl : Nat) (lf : Nat → Int) :
    vc Tryz.prog tlS noI (sL (bodyOf Tryz.f3)) ⟨[(0, .slc 0 0 r.n cr 6), (1, .slc 1 0 m cl 1)], 212, [.tab false r.n r.cols, .tab false m [.i .i64 lf]], [], 2⟩ (pq (fun st' => stL st' (tlA r m cr cl lf)) nope 0) =
    stL (tlA r m cr cl lf) (tlA r m cr cl lf) := by kernel_rfl
theorem vA1 (r : RT) (m cr cl : Nat) (lf : Nat → Int) :
    vc Tryz.prog tlS noI (sL (sR (bodyOf Tryz.f3))) (tlA r m cr cl lf) (pq (fun st' => ((r.n : Int) ≤ 20 ∧ (m : Int) ≤ 60) ∧ stL st' (tlA r m cr cl lf)) nope 0) =
    bc (decide ((r.n : Int) > 20)) (some (SV.v (.bool true)) = some (SV.v (.bool true))) (bc (bif false then true else decide ((m : Int) > 60)) (some (SV.v (.bool true)) = some (SV.v (.bool true))) (((r.n : Int) ≤ 20 ∧ (m : Int) ≤ 60) ∧ stL (tlA r m cr cl lf) (tlA r m cr cl lf))) := by kernel_rfl
theorem vA3 (r : RT) (m cr cl : Nat) (lf : Nat → Int) :
    vc Tryz.prog tlS noI (sL (sR (sR (bodyOf Tryz.f3)))) (tlA r m cr cl lf) (pq (fun st' => stL st' (tlA3 r m cr cl lf)) nope 0) =
    stL (tlA3 r m cr cl lf) (tlA3 r m cr cl lf) := by kernel_rfl
theorem vA4 (r : RT) (m cr cl : Nat) (lf : Nat → Int) :
    vc Tryz.prog tlS noI (sL (sR (sR (sR (bodyOf Tryz.f3))))) (tlA3 r m cr cl lf) (pq (fun st' => stL st' (tlA4 r m cr cl lf)) nope 0) =
    stL (tlA4 r m cr cl lf) (tlA4 r m cr cl lf) := by kernel_rfl
theorem vA5 (r : RT) (m cr cl : Nat) (lf : Nat → Int) :
    vc Tryz.prog tlS noI (sL (sL (sR (sR (sR (sR (bodyOf Tryz.f3))))))) (tlA4 r m cr cl lf) (pq (fun st' => stL st' (tlH r m cr cl lf 0 x00)) nope 0) =
    stL ⟨(8, .v (.int .i64 0)) :: (tlA4 r m cr cl lf).env, 212, (tlA4 r m cr cl lf).tbl, tlMv, 2⟩ (tlH r m cr cl lf 0 x00) := by kernel_rfl
theorem vH (r : RT) (m cr cl : Nat) (lf : Nat → Int) (i : Int) (x : LX) :
    vc Tryz.prog tlS noI (sL (bB (b0 (bodyOf Tryz.f3)))) (tlH r m cr cl lf i x) (pq (fun st' => i < (r.n : Int) ∧ stL st' (tlH r m cr cl lf i x)) (fun st' => stL st' (tlH r m cr cl lf i x)) 0) =
    bc (decide (i < (r.n : Int))) (i < (r.n : Int) ∧ stL (tlH r m cr cl lf i x) (tlH r m cr cl lf i x)) (Nat.beq 0 0 = true ∧ stL (tlH r m cr cl lf i x) (tlH r m cr cl lf i x)) := by kernel_rfl
theorem v8 (r : RT) (m cr cl : Nat) (lf : Nat → Int) (i : Int) (x : LX) :
    vc Tryz.prog tlS noI (sL (b1 (bodyOf Tryz.f3))) (tlH r m cr cl lf i x) (pq (fun st' => stL st' (tl9 r m cr cl lf i x (encB 0 (r.c (0 + i.toNat)) (r.s (0 + i.toNat)) (r.k (0 + i.toNat)) (r.e (0 + i.toNat)) firstB (r.nm (0 + i.toNat)) (r.b (0 + i.toNat))) (encE 0 (r.c (0 + i.toNat)) (r.s (0 + i.toNat)) (r.k (0 + i.toNat)) (r.e (0 + i.toNat)) firstB (r.nm (0 + i.toNat)) (r.b (0 + i.toNat))))) nope 0) =
    ob (decide (0 ≤ i) && decide (i < (r.n : Int))) (ob true (ob (decide ((0 + i.toNat) < r.n)) (ob ((decide ((0 : Int) ≤ 0) && decide ((0 : Int) ≤ 64)) && (firstB.size == 32 && decide ((r.nm (0 + i.toNat)).size + (r.b (0 + i.toNat)).size ≤ 9223372036854775807))) (stL (tl9 r m cr cl lf i x (encB 0 (r.c (0 + i.toNat)) (r.s (0 + i.toNat)) (r.k (0 + i.toNat)) (r.e (0 + i.toNat)) firstB (r.nm (0 + i.toNat)) (r.b (0 + i.toNat))) (encE 0 (r.c (0 + i.toNat)) (r.s (0 + i.toNat)) (r.k (0 + i.toNat)) (r.e (0 + i.toNat)) firstB (r.nm (0 + i.toNat)) (r.b (0 + i.toNat)))) (tl9 r m cr cl lf i x (encB 0 (r.c (0 + i.toNat)) (r.s (0 + i.toNat)) (r.k (0 + i.toNat)) (r.e (0 + i.toNat)) firstB (r.nm (0 + i.toNat)) (r.b (0 + i.toNat))) (encE 0 (r.c (0 + i.toNat)) (r.s (0 + i.toNat)) (r.k (0 + i.toNat)) (r.e (0 + i.toNat)) firstB (r.nm (0 + i.toNat)) (r.b (0 + i.toNat)))))))) := by kernel_rfl
theorem v9 (r : RT) (m cr cl : Nat) (lf : Nat → Int) (i : Int) (x : LX) (s : ByteArray) (e : Int) :
    vc Tryz.prog tlS noI (sL (sR (b1 (bodyOf Tryz.f3)))) (tl9 r m cr cl lf i x s e) (pq (fun st' => ((r.nm (0 + i.toNat)).size ≤ 100 ∧ (r.b (0 + i.toNat)).size ≤ 3000) ∧ stL st' (tl9 r m cr cl lf i x s e)) nope 0) =
    ob (decide (0 ≤ i) && decide (i < (r.n : Int))) (ob true (ob (decide ((0 + i.toNat) < r.n)) (bc (decide (((r.nm (0 + i.toNat)).size : Int) > 100)) (some (SV.v (.bool true)) = some (SV.v (.bool true))) (ob (decide (0 ≤ i) && decide (i < (r.n : Int))) (ob true (ob (decide ((0 + i.toNat) < r.n)) (bc (bif false then true else decide (((r.b (0 + i.toNat)).size : Int) > 3000)) (some (SV.v (.bool true)) = some (SV.v (.bool true))) (((r.nm (0 + i.toNat)).size ≤ 100 ∧ (r.b (0 + i.toNat)).size ≤ 3000) ∧ stL (tl9 r m cr cl lf i x s e) (tl9 r m cr cl lf i x s e))))))))) := by kernel_rfl
theorem v11 (r : RT) (m cr cl : Nat) (lf : Nat → Int) (i : Int) (x : LX) (s : ByteArray) (e : Int) (G : LX → Prop) :
    vc Tryz.prog tlS noI (sL (sR (sR (b1 (bodyOf Tryz.f3))))) (tl9 r m cr cl lf i x s e) (pq (fun st' => ∃ x' : LX, G x' ∧ stL st' (tlH r m cr cl lf i x')) nope 0) =
    bc (e == 0) (sendP x.a s (fun e p => bc (bif true then e == 0 else false) (ob true (ob (Nat.beq (x.q * 1) (x.q * 1)) (ob (decide ((x.q + 1) * 16 ≤ 140737488355328)) (∃ x' : LX, G x' ∧ stL (tlH r m cr cl lf i ⟨x.q + 1, upF x.st x.q s, p, x.b⟩) (tlH r m cr cl lf i x'))))) (∃ x' : LX, G x' ∧ stL (tlH r m cr cl lf i (x.sa p)) (tlH r m cr cl lf i x'))) (fun p => ob true (ob (Nat.beq (x.q * 1) (x.q * 1)) (ob (decide ((x.q + 1) * 16 ≤ 140737488355328)) (∃ x' : LX, G x' ∧ stL (tlH r m cr cl lf i ⟨x.q + 1, upF x.st x.q s, p, x.b⟩) (tlH r m cr cl lf i x')))))) (∃ x' : LX, G x' ∧ stL (tlH r m cr cl lf i x) (tlH r m cr cl lf i x')) := by kernel_rfl
theorem v13 (r : RT) (m cr cl : Nat) (lf : Nat → Int) (i : Nat) (x : LX) (G : LY → Prop) :
    vc Tryz.prog tlS noI (sL (sR (sR (sR (b1 (bodyOf Tryz.f3)))))) (tlH r m cr cl lf (i : Int) x) (pq (fun st' => ∃ y : LY, G y ∧ stL st' (tl11 r m cr cl lf y)) nope 0) =
    pollP x.a (i : Int) (fun p m' f => ∃ y : LY, G y ∧ stL (tl11 r m cr cl lf ⟨i, m', f, x.sa p⟩) (tl11 r m cr cl lf y)) := by kernel_rfl
theorem v14 (r : RT) (m cr cl : Nat) (lf : Nat → Int) (y : LY) :
    vc Tryz.prog tlS noI (sL (for2 (bodyOf Tryz.f3))) (tl11 r m cr cl lf y) (pq (fun st' => stL st' (tl2 r m cr cl lf 0 y)) nope 0) =
    stL (tl2 r m cr cl lf 0 y) (tl2 r m cr cl lf 0 y) := by kernel_rfl
theorem v15 (r : RT) (m cr cl : Nat) (lf : Nat → Int) (j : Int) (y : LY) :
    vc Tryz.prog tlS noI (sL (b2 (bodyOf Tryz.f3))) (tl2 r m cr cl lf j y) (pq (fun st' => j < (y.m : Int) ∧ stL st' (tl2 r m cr cl lf j y)) (fun st' => stL st' (tlH r m cr cl lf (y.i : Int) y.x)) 2) =
    bc (decide (j < (y.m : Int))) (j < (y.m : Int) ∧ stL (tl2 r m cr cl lf j y) (tl2 r m cr cl lf j y)) (Nat.beq 2 2 = true ∧ stL (tlH r m cr cl lf (y.i : Int) y.x) (tlH r m cr cl lf (y.i : Int) y.x)) := by kernel_rfl
theorem v17 (r : RT) (m cr cl : Nat) (lf : Nat → Int) (j : Int) (y : LY) :
    vc Tryz.prog tlS noI (sL (b3 (bodyOf Tryz.f3))) (tl2 r m cr cl lf j y) (pq (fun st' => stL st' (tl3 r m cr cl lf j false y)) nope 0) =
    stL (tl3 r m cr cl lf j false y) (tl3 r m cr cl lf j false y) := by kernel_rfl
theorem v18 (r : RT) (m cr cl : Nat) (lf : Nat → Int) (j : Int) (g : Bool) (y : LY) :
    vc Tryz.prog tlS noI (sL (for4 (bodyOf Tryz.f3))) (tl3 r m cr cl lf j g y) (pq (fun st' => stL st' (tl4 r m cr cl lf j y 0 g)) nope 0) =
    stL (tl4 r m cr cl lf j y 0 g) (tl4 r m cr cl lf j y 0 g) := by kernel_rfl
theorem v4 (r : RT) (m cr cl : Nat) (lf : Nat → Int) (j : Int) (y : LY) (k : Int) (g : Bool) (D : Prop) (k' : Int) :
    vc Tryz.prog tlS noI (b4 (bodyOf Tryz.f3)) (tl4 r m cr cl lf j y k g) (pq (fun st' => D ∧ ∃ g' : Bool, True ∧ stL st' (tl4 r m cr cl lf j y k' g')) (fun st' => ∃ g' : Bool, stL st' (tl3 r m cr cl lf j g' y)) 4) =
    bc (decide (k < (m : Int))) (bc g (D ∧ ∃ g' : Bool, True ∧ stL (tl4 r m cr cl lf j y (IntKind.i64.wrap (k + 1)) true) (tl4 r m cr cl lf j y k' g')) (ob (decide (0 ≤ k) && decide (k < (m : Int))) (ob true (ob (decide (0 + k.toNat < m)) (D ∧ ∃ g' : Bool, True ∧ stL (tl4 r m cr cl lf j y (IntKind.i64.wrap (k + 1)) (bif false then true else lf (0 + k.toNat) == IntKind.i64.wrap (IntKind.i64.wrap (8 * (y.i : Int)) + j))) (tl4 r m cr cl lf j y k' g')))))) (Nat.beq 4 4 = true ∧ ∃ g' : Bool, stL (tl3 r m cr cl lf j g y) (tl3 r m cr cl lf j g' y)) := by kernel_rfl
theorem v22 (r : RT) (m cr cl : Nat) (lf : Nat → Int) (j : Int) (g : Bool) (y : LY) (G : PS → Prop) :
    vc Tryz.prog tlS noI (sR (sR (b3 (bodyOf Tryz.f3)))) (tl3 r m cr cl lf j g y) (pq (fun st' => ∃ p : PS, G p ∧ stL st' (tl2 r m cr cl lf j (y.sb p))) nope 0) =
    bc (!g) (ob (decide (0 ≤ j) && decide (j < (y.m : Int))) (ob true (ob (decide ((0 + j.toNat) < y.m)) (takeP y.x.b (y.f (0 + j.toNat)) fun p1 => ob (decide (0 ≤ j) && decide (j < (y.m : Int))) (ob true (ob (decide ((0 + j.toNat) < y.m)) (takeP p1 (y.f (0 + j.toNat)) fun p2 => ∃ p : PS, G p ∧ stL (tl2 r m cr cl lf j (y.sb p2)) (tl2 r m cr cl lf j (y.sb p))))))))) (∃ p : PS, G p ∧ stL (tl2 r m cr cl lf j y) (tl2 r m cr cl lf j (y.sb p))) := by kernel_rfl
theorem v16 (r : RT) (m cr cl : Nat) (lf : Nat → Int) (j k : Int) (y y' : LY) :
    vc Tryz.prog tlS noI (sR (sR (b2 (bodyOf Tryz.f3)))) (tl2 r m cr cl lf j y) (pq (fun st' => stL st' (tl2 r m cr cl lf k y')) nope 0) =
    stL (tl2 r m cr cl lf (IntKind.i64.wrap (j + 1)) y) (tl2 r m cr cl lf k y') := by kernel_rfl
theorem v25 (r : RT) (m cr cl : Nat) (lf : Nat → Int) (i : Nat) (x : LX) (G : LY → Prop) :
    vc Tryz.prog tlS noI (sL (sR (sR (sR (sR (sR (b1 (bodyOf Tryz.f3)))))))) (tlH r m cr cl lf (i : Int) x) (pq (fun st' => ∃ y : LY, G y ∧ stL st' (tl15 r m cr cl lf y)) nope 0) =
    pollP x.b (i : Int) (fun p m' f => ∃ y : LY, G y ∧ stL (tl15 r m cr cl lf ⟨i, m', f, x.sb p⟩) (tl15 r m cr cl lf y)) := by kernel_rfl
theorem v26 (r : RT) (m cr cl : Nat) (lf : Nat → Int) (y : LY) :
    vc Tryz.prog tlS noI (sL (for6 (bodyOf Tryz.f3))) (tl15 r m cr cl lf y) (pq (fun st' => stL st' (tl6 r m cr cl lf 0 y)) nope 0) =
    stL (tl6 r m cr cl lf 0 y) (tl6 r m cr cl lf 0 y) := by kernel_rfl
theorem v6 (r : RT) (m cr cl : Nat) (lf : Nat → Int) (j : Int) (y : LY) (D : Prop) (k' : Int) (G : LY → Prop) :
    vc Tryz.prog tlS noI (b6 (bodyOf Tryz.f3)) (tl6 r m cr cl lf j y) (pq (fun st' => D ∧ ∃ y' : LY, G y' ∧ stL st' (tl6 r m cr cl lf k' y')) (fun st' => stL st' (tlH r m cr cl lf (y.i : Int) y.x)) 6) =
    bc (decide (j < (y.m : Int))) (bc (bif true then iand IntKind.i64 (y.i : Int) 1 == 0 else false) (ob (decide (0 ≤ j) && decide (j < (y.m : Int))) (ob true (ob (decide ((0 + j.toNat) < y.m)) (takeP y.x.a (y.f (0 + j.toNat)) fun p => D ∧ ∃ y' : LY, G y' ∧ stL (tl6 r m cr cl lf (IntKind.i64.wrap (j + 1)) (y.sa p)) (tl6 r m cr cl lf k' y'))))) (Nat.beq 6 6 = true ∧ stL (tlH r m cr cl lf (y.i : Int) y.x) (tlH r m cr cl lf (y.i : Int) y.x))) (Nat.beq 6 6 = true ∧ stL (tlH r m cr cl lf (y.i : Int) y.x) (tlH r m cr cl lf (y.i : Int) y.x)) := by kernel_rfl
theorem v7 (r : RT) (m cr cl : Nat) (lf : Nat → Int) (i k : Int) (x x' : LX) :
    vc Tryz.prog tlS noI (sR (sR (bB (b0 (bodyOf Tryz.f3))))) (tlH r m cr cl lf i x) (pq (fun st' => stL st' (tlH r m cr cl lf k x')) nope 0) =
    stL (tlH r m cr cl lf (IntKind.i64.wrap (i + 1)) x) (tlH r m cr cl lf k x') := by kernel_rfl
theorem v30 (r : RT) (m cr cl : Nat) (lf : Nat → Int) (i : Int) (x : LX) (G : Nat → (Nat → ByteArray) → Prop) :
    vc Tryz.prog tlS noI (sL (tl5 (bodyOf Tryz.f3))) (tlH r m cr cl lf i x) (pq (fun st' => ∃ (n : Nat) (f : Nat → ByteArray), G n f ∧ stL st' (tl17 x n f)) nope 0) =
    ∃ p : PS, x.b.tbl true = p.tbl true ∧ ob (decide (p.m ≤ 1000000)) (∃ (n : Nat) (f : Nat → ByteArray), G n f ∧ stL (tl17 x p.m p.td) (tl17 x n f)) := by kernel_rfl
theorem v31 (x : LX) (mm : Nat) (f : Nat → ByteArray) :
    vc Tryz.prog tlS noI (sL (sR (tl5 (bodyOf Tryz.f3)))) (tl17 x mm f) (pq (fun st' => stL st' (tl31 mm f)) nope 0) =
    bc (decide ((mm : Int) > (x.q : Int))) (some (SV.v (.bool false)) = some (SV.v (.bool true))) (ob (decide ((0 : Int) ≤ (mm : Int)) && decide ((mm : Int) ≤ (x.q : Int))) (ob ((Nat.beq mm mm && Nat.beq ((mm : Int)).toNat mm) && ((Nat.ble mm x.q && Nat.ble mm mm) && (Nat.ble mm x.q && decide (mm ≤ 1000000)))) ((∀ j, j < mm → f j = x.st j) ∧ stL (tl31 mm f) (tl31 mm f)))) := by kernel_rfl
theorem v34 (w : LW) :
    vc Tryz.prog tlS noI (sL (for8 (bodyOf Tryz.f3))) (tl33 w) (pq (fun st' => stL st' (tl8 0 w)) nope 0) =
    stL (tl8 0 w) (tl8 0 w) := by kernel_rfl

end Go.Proofs.YtpdkchpjekglaaaGreat.Sx
/- TopLinks: its code's leaves, the pool. No condition. -/
namespace Go.Proofs.YtpdkchpjekglaaaGreat.Sx
open Go Go.Proofs
set_option maxRecDepth 100000
set_option linter.unusedSimpArgs false
set_option linter.unusedVariables false

theorem v33 (mm : Nat) (f : Nat → ByteArray) :
    vc Tryz.prog tlS noI (sL (sR (sR (tl5 (bodyOf Tryz.f3))))) (tl31 mm f) (pq (fun st' => stL st' (tl33 ⟨mm, f, r0, R0⟩)) nope 0) =
    stL ⟨[(19, .ptr 39 0), (18, .ptr 20 0), (17, .slc 19 0 mm mm 1)], 212, dead18 ++ (.dead :: .tab true mm [.s f] :: (poolB (fun v => SV.ren (back [] 20) (gPool R0 v)) R0 0 ++ [.cells true (.v (.slice none 0 0) :: lastM)])), tlMv, 2⟩ (tl33 ⟨mm, f, r0, R0⟩) := by kernel_rfl
theorem v8b (j : Int) (w : LW) (D : Prop) (k' : Int) (G : LW → Prop) :
    vc Tryz.prog tlS noI (b8 (bodyOf Tryz.f3)) (tl8 j w) (pq (fun st' => D ∧ ∃ w' : LW, G w' ∧ stL st' (tl8 k' w')) (fun st' => stL st' (tl33 w)) 8) =
    bc (decide (j < (w.m : Int))) (ob (decide (0 ≤ j) && decide (j < (w.m : Int))) (ob true (ob (decide (0 + j.toNat < w.m)) (∃ (c s k e : Int) (n b : ByteArray), w.f (0 + j.toNat) = blkB 0 c s k e firstB n b ∧ encE 0 c s k e firstB n b = 0 ∧ ob true (refP w c s k e n b (fun r R N => D ∧ ∃ w' : LW, G w' ∧ stL (tlN (fun v => SV.ren (back L19 44) (gPool R v)) (IntKind.i64.wrap (j + 1)) w.m w.f r R N) (tl8 k' w')) ∧ refP w c s k e n b (fun r R N => D ∧ ∃ w' : LW, G w' ∧ stL (tlN (fun v => SV.ren (back L19 44) (gPool R v)) (IntKind.i64.wrap (j + 1)) w.m w.f r R N) (tl8 k' w'))))))) (Nat.beq 8 8 = true ∧ stL (tl33 w) (tl33 w)) := by kernel_rfl
theorem v44 (w : LW) :
    vc Tryz.prog tlS noI (sR (sR (sR (sR (tl5 (bodyOf Tryz.f3)))))) (tl33 w) (pq nope nope 0) =
    ∃ N : Int, inLen (poolC false (fun v => SV.ren (pos L19) (gPoolA w.R v)) w.R (w.r.n : Int)) N ∧ bc (N == (w.r.n : Int)) (some (SV.v (.bool true)) = some (SV.v (.bool true))) (some (SV.v (.bool false)) = some (SV.v (.bool true))) := by kernel_rfl

end Go.Proofs.YtpdkchpjekglaaaGreat.Sx
/- TopLinks: states told as themselves. No condition. -/
namespace Go.Proofs.YtpdkchpjekglaaaGreat.Sx
open Go Go.Proofs
set_option maxRecDepth 100000
set_option linter.unusedSimpArgs false
set_option linter.unusedVariables false

theorem at_ok (p : PS) (o : Nat) : okST (p.at o) := by
  refine ⟨⟨trivial, trivial, trivial, Nat.le_refl _, trivial, trivial, Nat.le_refl _, trivial, trivial⟩, ⟨trivial, trivial, trivial, trivial⟩, ⟨trivial, trivial, trivial⟩, fun y hy => ⟨fun _ => rfl, trivial⟩, fun y hy => ⟨fun _ => rfl, trivial⟩, fun y hy => ⟨fun _ => rfl, ⟨trivial, trivial, trivial⟩⟩, trivial, trivial, trivial⟩
theorem tlB_ok (r : RT) (m : Nat) (lf : Nat → Int) (x : LX) (w : List Blk) (hw : okST w) : okST (tlB r m lf x w) :=
  ⟨trivial, trivial, okST_app (at_ok _ _) (okST_app (at_ok _ _) ⟨trivial, hw⟩)⟩
section
variable {r : RT} {m cr cl : Nat} {lf : Nat → Int}
theorem E_ok (h0 : r.n ≤ cr) (h1 : m ≤ cl) (i : Int) (x : LX) : envOk (tlE r m cr cl i x) := ⟨trivial, Nat.le_refl _, trivial, trivial, h1, h0, trivial⟩
theorem A_self (h0 : r.n ≤ cr) (h1 : m ≤ cl) : stL (tlA r m cr cl lf) (tlA r m cr cl lf) := stL_self _ (by kernel_rfl) ⟨h1, h0, trivial⟩ ⟨trivial, trivial, trivial⟩
theorem A3_self (h0 : r.n ≤ cr) (h1 : m ≤ cl) : stL (tlA3 r m cr cl lf) (tlA3 r m cr cl lf) := stL_self _ (by kernel_rfl) ⟨trivial, trivial, h1, h0, trivial⟩ ⟨trivial, trivial, okST_app (at_ok _ _) (at_ok _ _)⟩
theorem A4_self (h0 : r.n ≤ cr) (h1 : m ≤ cl) : stL (tlA4 r m cr cl lf) (tlA4 r m cr cl lf) := stL_self _ (by kernel_rfl) ⟨trivial, trivial, trivial, h1, h0, trivial⟩ ⟨trivial, trivial, okST_app (at_ok _ _) (at_ok _ _)⟩
theorem H_self (h0 : r.n ≤ cr) (h1 : m ≤ cl) (i : Int) (x : LX) : stL (tlH r m cr cl lf i x) (tlH r m cr cl lf i x) := stL_self _ (by kernel_rfl) (E_ok h0 h1 i x) (tlB_ok _ _ _ _ _ trivial)
theorem s9_self (h0 : r.n ≤ cr) (h1 : m ≤ cl) (i : Int) (x : LX) (s : ByteArray) (e : Int) : stL (tl9 r m cr cl lf i x s e) (tl9 r m cr cl lf i x s e) := stL_self _ (by kernel_rfl) ⟨trivial, trivial, E_ok h0 h1 i x⟩ (tlB_ok _ _ _ _ _ trivial)
theorem s11_self (h0 : r.n ≤ cr) (h1 : m ≤ cl) (y : LY) : stL (tl11 r m cr cl lf y) (tl11 r m cr cl lf y) := stL_self _ (by kernel_rfl) ⟨Nat.le_refl _, E_ok h0 h1 _ _⟩ (tlB_ok _ _ _ _ _ ⟨trivial, trivial⟩)
theorem s2_self (h0 : r.n ≤ cr) (h1 : m ≤ cl) (j : Int) (y : LY) : stL (tl2 r m cr cl lf j y) (tl2 r m cr cl lf j y) := stL_self _ (by kernel_rfl) ⟨trivial, Nat.le_refl _, E_ok h0 h1 _ _⟩ (tlB_ok _ _ _ _ _ ⟨trivial, trivial⟩)
theorem s3_self (h0 : r.n ≤ cr) (h1 : m ≤ cl) (j : Int) (g : Bool) (y : LY) : stL (tl3 r m cr cl lf j g y) (tl3 r m cr cl lf j g y) := stL_self _ (by kernel_rfl) ⟨trivial, trivial, Nat.le_refl _, E_ok h0 h1 _ _⟩ (tlB_ok _ _ _ _ _ ⟨trivial, trivial⟩)
theorem s4_self (h0 : r.n ≤ cr) (h1 : m ≤ cl) (j : Int) (y : LY) (k : Int) (g : Bool) : stL (tl4 r m cr cl lf j y k g) (tl4 r m cr cl lf j y k g) := stL_self _ (by kernel_rfl) ⟨trivial, trivial, trivial, Nat.le_refl _, E_ok h0 h1 _ _⟩ (tlB_ok _ _ _ _ _ ⟨trivial, trivial⟩)
theorem s15_self (h0 : r.n ≤ cr) (h1 : m ≤ cl) (y : LY) : stL (tl15 r m cr cl lf y) (tl15 r m cr cl lf y) := stL_self _ (by kernel_rfl) ⟨Nat.le_refl _, E_ok h0 h1 _ _⟩ (tlB_ok _ _ _ _ _ ⟨trivial, trivial⟩)
theorem s6_self (h0 : r.n ≤ cr) (h1 : m ≤ cl) (j : Int) (y : LY) : stL (tl6 r m cr cl lf j y) (tl6 r m cr cl lf j y) := stL_self _ (by kernel_rfl) ⟨trivial, Nat.le_refl _, E_ok h0 h1 _ _⟩ (tlB_ok _ _ _ _ _ ⟨trivial, trivial⟩)
end
theorem dead_ok {w : List Blk} (h : okST w) : okST (dead18 ++ w) := okST_app ⟨trivial, trivial, trivial, trivial, trivial, trivial, trivial, trivial, trivial, trivial, trivial, trivial, trivial, trivial, trivial, trivial, trivial, trivial, trivial⟩ h
theorem s17_self (x : LX) (n : Nat) (f : Nat → ByteArray) : stL (tl17 x n f) (tl17 x n f) := stL_self _ (by kernel_rfl) ⟨Nat.le_refl _, Nat.le_refl _, trivial⟩ (dead_ok ⟨trivial, trivial, trivial⟩)
theorem s31_self (n : Nat) (f : Nat → ByteArray) : stL (tl31 n f) (tl31 n f) := stL_self _ (by kernel_rfl) ⟨Nat.le_refl _, trivial⟩ (dead_ok ⟨trivial, trivial, trivial⟩)
theorem pA_ok (R : Nat → RT) (N : Int) : okST (poolA R N) := by
  refine ⟨⟨trivial, trivial, trivial, trivial⟩, fun y hy => ⟨fun h => Bool.noConfusion h, ?_⟩, fun y hy => ⟨fun _ => rfl, trivial⟩, trivial, trivial, trivial, trivial, trivial, trivial, trivial, trivial, trivial, trivial, trivial, trivial, trivial, trivial, trivial, trivial, trivial⟩
  obtain ⟨z, hz, rfl⟩ := List.mem_map.1 hy
  exact Nat.le_refl _
theorem last_ok : SV.okSL lastM := ⟨trivial, trivial, trivial, trivial, trivial, trivial, trivial, trivial, trivial, trivial, trivial, trivial, trivial, trivial, trivial, trivial, trivial⟩
theorem p8_ok (w : LW) : okST (dead18 ++ (.dead :: .tab true w.m [.s w.f] :: (poolA w.R (w.r.n : Int) ++ [.cells true (.slc 40 0 w.r.n w.r.n 6 :: lastM), .tab true w.r.n w.r.cols]))) :=
  dead_ok ⟨trivial, trivial, okST_app (pA_ok _ _) ⟨⟨Nat.le_refl _, last_ok⟩, trivial, trivial⟩⟩
theorem s33_self (w : LW) : stL (tl33 w) (tl33 w) := stL_self _ (by kernel_rfl) ⟨trivial, trivial, Nat.le_refl _, trivial⟩ (p8_ok w)
theorem s8_self (j : Int) (w : LW) : stL (tl8 j w) (tl8 j w) := stL_self _ (by kernel_rfl) ⟨trivial, trivial, trivial, Nat.le_refl _, trivial⟩ (p8_ok w)
/-- One state told as another. -/
theorem stL_of {st st' : St} (hb : ((Nat.beq st.nt st'.nt && Nat.beq st.n0 st'.n0) && (Nat.ble st'.n0 st'.tbl.length && (subB st.mv st'.mv && (envLt st'.tbl.length st'.env && tblLt st'.tbl.length st'.tbl)))) = true)
    (he : ∀ K : Prop, K → envLeK st.env st'.env K) (ht : tblLeK st.tbl st'.tbl True) : stL st st' := by
  rw [Bool.and_eq_true, Bool.and_eq_true, Bool.and_eq_true, Bool.and_eq_true] at hb
  obtain ⟨⟨h1, h2⟩, h3, h4, h5⟩ := hb
  unfold stL stLe
  simp only [h1, h2, h3, h4, h5]
  exact he _ ht
theorem tblLeK_app : ∀ (l : List Blk) (m m' : List Blk) (K : Prop), okST l → tblLeK m m' K → tblLeK (l ++ m) (l ++ m') K
  | [], _, _, _, _, h => h
  | b :: r, m, m', K, hl, h => by
    simp only [List.cons_append, tblLeK]
    exact blkLeK_self b _ hl.1 (tblLeK_app r m m' K hl.2 h)
theorem poolB_le (g : Value → SV) (R : Nat → RT) (N : Int) (m m' : List Blk) (K : Prop) (hg : ∀ y ∈ c16L, SV.le (g (.int .i64 y)) (gPoolA R (.int .i64 y))) (h : tblLeK m m' K) : tblLeK (poolB g R N ++ m) (poolA R N ++ m') K := by
  have ht : okST [Blk.map true true (.i .i64 []) (fun _ => .v (.int .i64 0)), .tab true (R 0).n (R 0).cols, .tab true (R 1).n (R 1).cols, .tab true (R 2).n (R 2).cols, .tab true (R 3).n (R 3).cols, .tab true (R 4).n (R 4).cols, .tab true (R 5).n (R 5).cols, .tab true (R 6).n (R 6).cols, .tab true (R 7).n (R 7).cols, .tab true (R 8).n (R 8).cols, .tab true (R 9).n (R 9).cols, .tab true (R 10).n (R 10).cols, .tab true (R 11).n (R 11).cols, .tab true (R 12).n (R 12).cols, .tab true (R 13).n (R 13).cols, .tab true (R 14).n (R 14).cols, .tab true (R 15).n (R 15).cols] :=
    ⟨fun y hy => ⟨fun _ => rfl, trivial⟩, trivial, trivial, trivial, trivial, trivial, trivial, trivial, trivial, trivial, trivial, trivial, trivial, trivial, trivial, trivial, trivial, trivial⟩
  refine blkLeK_self (.cells true [.mp 21, .mp 22, .v (.int .i64 N)]) _ ⟨trivial, trivial, trivial, trivial⟩ ?_
  show blkLeK (.map true false (.c .i64 c16L (hasR R)) g) (.map true false (.c .i64 c16L (hasR R)) (gPoolA R)) _
  simp only [blkLeK]
  refine ob_mk rfl (ksEqK_self _ _ ⟨fun y hy => ?_, tblLeK_app _ m m' K ht h⟩)
  obtain ⟨z, hz, rfl⟩ := List.mem_map.1 hy
  exact hg z hz
theorem cl16 {Q : Int → Prop} (h : Q 0 ∧ Q 1 ∧ Q 2 ∧ Q 3 ∧ Q 4 ∧ Q 5 ∧ Q 6 ∧ Q 7 ∧ Q 8 ∧ Q 9 ∧ Q 10 ∧ Q 11 ∧ Q 12 ∧ Q 13 ∧ Q 14 ∧ Q 15) : ∀ y ∈ c16L, Q y := by
  intro y hy
  simp only [c16L, List.mem_cons, List.not_mem_nil, or_false] at hy
  rcases hy with rfl | rfl | rfl | rfl | rfl | rfl | rfl | rfl | rfl | rfl | rfl | rfl | rfl | rfl | rfl | rfl <;> simp only [h]
theorem slc_le (i n : Nat) : SV.le (.slc i 0 n n 6) (.slc i 0 n n 6) := ⟨rfl, rfl, rfl, Nat.le_refl _, Nat.le_refl _, rfl⟩
theorem back_le (R : Nat → RT) (js : List Nat) (n : Nat) (hk : (js, n) = (L19, 44) ∨ (js, n) = ([], 20)) : ∀ y ∈ c16L, SV.le (SV.ren (back js n) (gPool R (.int .i64 y))) (gPoolA R (.int .i64 y)) := by
  rcases hk with hk | hk
  · cases hk
    exact cl16 ⟨slc_le _ _, slc_le _ _, slc_le _ _, slc_le _ _, slc_le _ _, slc_le _ _, slc_le _ _, slc_le _ _, slc_le _ _, slc_le _ _, slc_le _ _, slc_le _ _, slc_le _ _, slc_le _ _, slc_le _ _, slc_le _ _⟩
  · cases hk
    exact cl16 ⟨slc_le _ _, slc_le _ _, slc_le _ _, slc_le _ _, slc_le _ _, slc_le _ _, slc_le _ _, slc_le _ _, slc_le _ _, slc_le _ _, slc_le _ _, slc_le _ _, slc_le _ _, slc_le _ _, slc_le _ _, slc_le _ _⟩

end Go.Proofs.YtpdkchpjekglaaaGreat.Sx
