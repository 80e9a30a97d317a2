/- TopLinks: a pipe's calls, by contract. No condition. -/
import Derived.Test.YtpdkchpjekglaaaGreatSx13
import Derived.Test.YtpdkchpjekglaaaGreatProg
import Derived.Test.YtpdkchpjekglaaaGreatBase
import Derived.Test.YtpdkchpjekglaaaGreatMA
import Derived.Test.YtpdkchpjekglaaaGreatMB
import Derived.Test.YtpdkchpjekglaaaGreatMC
/- pipe: an end's memory; a frame's bytes. No condition. -/
namespace Go.Proofs.YtpdkchpjekglaaaGreat.Sx
open Go Go.Proofs
set_option maxRecDepth 100000
set_option linter.unusedSimpArgs false
set_option linter.unusedVariables false

structure PS where
  room : Int
  sent : Int
  n : Nat
  os : Nat → Int
  ot : Nat → ByteArray
  og : Nat → Bool
  m : Nat
  td : Nat → ByteArray
  owe : Bool
  base : Int
  bk : List Int
  most : Int
  tk : List Int
  wd : Value → Int
  we : Value → Int
  hk : List Int
  hg : Value → ByteArray
def heldM (hg : Value → ByteArray) : Value → SV := fun v => .v (.string (hg v))
/-- An end's memory. -/
def pT (w : Bool) (room sent : Int) (n : Nat) (os : Nat → Int) (ot : Nat → ByteArray) (og : Nat → Bool) (m : Nat) (td : Nat → ByteArray) (owe : Bool) (base : Int) (bk : List Int) (most : Int) (tk : List Int) (wd we : Value → Int) (hk : List Int) (hg : Value → ByteArray) : List Blk :=
  [.cells w [.ptr 1 0, .v (.int .i64 room), .v (.int .i64 sent), .slc 2 0 n n 3, .ptr 3 0, .mp 4, .slc 5 0 m m 1, .v (.bool owe)],
   .cells w [.v (.int .i64 64), .v (.int .i64 base), .mp 6],
   .tab w n [.i .i64 os, .s ot, .b og],
   .cells w [.v (.int .i64 most), .mp 7],
   .map w true (.i .i64 hk) (heldM hg),
   .tab w m [.s td],
   .map w true (.i .i64 bk) allT,
   .map w true (.i .i64 tk) (waits wd we)]
def PS.tbl (w : Bool) (p : PS) : List Blk := pT w p.room p.sent p.n p.os p.ot p.og p.m p.td p.owe p.base p.bk p.most p.tk p.wd p.we p.hk p.hg
theorem base_vf (z b : Int) (bk : List Int) (g : Value → SV) (K : SV → List Blk → List Nat → Prop) : vf Tryz.prog [] (noI) Tryz.f47 [.ptr 0 0] [.cells false [.v (.int .i64 z), .v (.int .i64 b), .mp 1], .map false true (.i .i64 bk) g] K =
  (K (SV.v (Value.int IntKind.i64 b)) [Blk.cells false [SV.v (Value.int IntKind.i64 z), SV.v (Value.int IntKind.i64 b), SV.mp (1 : Nat)], Blk.map false true (KS.i IntKind.i64 bk) g] []) := by kernel_rfl
def baseS : Spec := .q fun args blks K => match args, blks with
  | [.ptr 0 0], [.cells false [.v (.int .i64 z), .v (.int .i64 b), .mp 1], .map false true (.i .i64 bk) g] => K (.v (.int .i64 b))
  | _, _ => False
theorem baseS_ok : SpecOK Tryz.prog 47 baseS := by
  refine q_ro mixed .nil Tryz.func47 rfl rfl fun args blks K h => ?_
  split at h
  · exact ⟨_, rfl, h, rfl, noI, by rw [base_vf]⟩
  · exact h.elim
theorem pframe_vf (p : PS) (a s : ByteArray) (K : SV → List Blk → List Nat → Prop) : vf Tryz.prog [(47, baseS), (42, fourS), (37, textsS), (85, rframeS)] (noI) Tryz.f41 [.ptr 0 0, .v (.string a), .v (.string s)] (PS.tbl false p) K =
  (ob (decide (lenT [a, fourB p.base, s] ≤ (100000000000000 : Nat))) (ob (decide ((textsB [a, fourB p.base, s]).size ≤ (4096 : Nat))) (K (SV.v (Value.string (recB (textsB [a, fourB p.base, s])))) [Blk.cells false [SV.ptr (1 : Nat) (0 : Nat), SV.v (Value.int IntKind.i64 p.room), SV.v (Value.int IntKind.i64 p.sent), SV.slc (2 : Nat) (0 : Nat) p.n p.n (3 : Nat), SV.ptr (3 : Nat) (0 : Nat), SV.mp (4 : Nat), SV.slc (5 : Nat) (0 : Nat) p.m p.m (1 : Nat), SV.v (Value.bool p.owe)], Blk.cells false [SV.v (Value.int IntKind.i64 (64 : Int)), SV.v (Value.int IntKind.i64 p.base), SV.mp (6 : Nat)], Blk.tab false p.n [Col.i IntKind.i64 p.os, Col.s p.ot, Col.b p.og], Blk.cells false [SV.v (Value.int IntKind.i64 p.most), SV.mp (7 : Nat)], Blk.map false true (KS.i IntKind.i64 p.hk) (heldM p.hg), Blk.tab false p.m [Col.s p.td], Blk.map false true (KS.i IntKind.i64 p.bk) allT, Blk.map false true (KS.i IntKind.i64 p.tk) (waits p.wd p.we), Blk.cells true [SV.v (Value.string a), SV.v (Value.string (fourB p.base)), SV.v (Value.string s)]] []))) := by kernel_rfl
def pframeS : Spec := .q fun args blks K => match args with
  | [.ptr 0 0, .v (.string a), .v (.string s)] => ∃ p : PS, blks = p.tbl false ∧ ob (decide (a.size ≤ 4) && decide (s.size ≤ 4000)) (K (.v (.string (recB (textsB [a, fourB p.base, s])))))
  | _ => False
theorem pframeS_ok : SpecOK Tryz.prog 41 pframeS := by
  refine q_ro mixed (.cons baseS_ok (.cons pfourS_ok (.cons textsS_ok (.cons rframeS_ok .nil)))) Tryz.func41 rfl rfl fun args blks K h => ?_
  split at h
  case h_2 => exact h.elim
  rename_i a s
  obtain ⟨p, rfl, h⟩ := h
  rw [ob_iff] at h
  simp only [Bool.and_eq_true, decide_eq_true_eq] at h
  obtain ⟨⟨ha, hs⟩, hK⟩ := h
  refine ⟨_, rfl, hK, rfl, noI, ?_⟩
  rw [pframe_vf]
  have hl : lenT [a, fourB p.base, s] ≤ 4020 := by simp only [lenT, fourB_size]; omega
  refine ob_mk (decide_eq_true (by omega)) (ob_mk (decide_eq_true (by rw [textsB_size]; omega)) rfl)
theorem send_vf (p : PS) (s : ByteArray) (K : SV → List Blk → List Nat → Prop) : vf Tryz.prog [] (noI) Tryz.f8 [.ptr 0 0, .v (.string s)] (PS.tbl true p) K =
  (bc (decide ((↑s.size : Int) > (4000 : Int))) (K (SV.v (Value.int IntKind.i64 (2 : Int))) [Blk.cells true [SV.ptr (1 : Nat) (0 : Nat), SV.v (Value.int IntKind.i64 p.room), SV.v (Value.int IntKind.i64 p.sent), SV.slc (2 : Nat) (0 : Nat) p.n p.n (3 : Nat), SV.ptr (3 : Nat) (0 : Nat), SV.mp (4 : Nat), SV.slc (5 : Nat) (0 : Nat) p.m p.m (1 : Nat), SV.v (Value.bool p.owe)], Blk.cells true [SV.v (Value.int IntKind.i64 (64 : Int)), SV.v (Value.int IntKind.i64 p.base), SV.mp (6 : Nat)], Blk.tab true p.n [Col.i IntKind.i64 p.os, Col.s p.ot, Col.b p.og], Blk.cells true [SV.v (Value.int IntKind.i64 p.most), SV.mp (7 : Nat)], Blk.map true true (KS.i IntKind.i64 p.hk) (heldM p.hg), Blk.tab true p.m [Col.s p.td], Blk.map true true (KS.i IntKind.i64 p.bk) allT, Blk.map true true (KS.i IntKind.i64 p.tk) (waits p.wd p.we)] []) (bc (decide ((↑p.n : Int) ≥ p.room)) (K (SV.v (Value.int IntKind.i64 (7 : Int))) [Blk.cells true [SV.ptr (1 : Nat) (0 : Nat), SV.v (Value.int IntKind.i64 p.room), SV.v (Value.int IntKind.i64 p.sent), SV.slc (2 : Nat) (0 : Nat) p.n p.n (3 : Nat), SV.ptr (3 : Nat) (0 : Nat), SV.mp (4 : Nat), SV.slc (5 : Nat) (0 : Nat) p.m p.m (1 : Nat), SV.v (Value.bool p.owe)], Blk.cells true [SV.v (Value.int IntKind.i64 (64 : Int)), SV.v (Value.int IntKind.i64 p.base), SV.mp (6 : Nat)], Blk.tab true p.n [Col.i IntKind.i64 p.os, Col.s p.ot, Col.b p.og], Blk.cells true [SV.v (Value.int IntKind.i64 p.most), SV.mp (7 : Nat)], Blk.map true true (KS.i IntKind.i64 p.hk) (heldM p.hg), Blk.tab true p.m [Col.s p.td], Blk.map true true (KS.i IntKind.i64 p.bk) allT, Blk.map true true (KS.i IntKind.i64 p.tk) (waits p.wd p.we)] []) (ob true (ob ((p.n * (3 : Nat)).beq (p.n * (3 : Nat))) (ob (decide ((p.n + (1 : Nat)) * (32 : Nat) ≤ (140737488355328 : Nat))) (K (SV.v (Value.int IntKind.i64 (0 : Int))) [Blk.cells true [SV.ptr (1 : Nat) (0 : Nat), SV.v (Value.int IntKind.i64 p.room), SV.v (Value.int IntKind.i64 (IntKind.i64.wrap (p.sent + (1 : Int)))), SV.slc (2 : Nat) (0 : Nat) (p.n + (1 : Nat)) (p.n + (1 : Nat)) (3 : Nat), SV.ptr (3 : Nat) (0 : Nat), SV.mp (4 : Nat), SV.slc (5 : Nat) (0 : Nat) p.m p.m (1 : Nat), SV.v (Value.bool p.owe)], Blk.cells true [SV.v (Value.int IntKind.i64 (64 : Int)), SV.v (Value.int IntKind.i64 p.base), SV.mp (6 : Nat)], Blk.tab true (p.n + (1 : Nat)) [Col.i IntKind.i64 (upF p.os p.n p.sent), Col.s (upF p.ot p.n s), Col.b (upF p.og p.n true)], Blk.cells true [SV.v (Value.int IntKind.i64 p.most), SV.mp (7 : Nat)], Blk.map true true (KS.i IntKind.i64 p.hk) (heldM p.hg), Blk.tab true p.m [Col.s p.td], Blk.map true true (KS.i IntKind.i64 p.bk) allT, Blk.map true true (KS.i IntKind.i64 p.tk) (waits p.wd p.we), Blk.cells true [SV.v (Value.int IntKind.i64 p.sent), SV.v (Value.string s), SV.v (Value.bool true)]] [(2 : Nat)])))))) := by kernel_rfl
def PS.send (p : PS) (s : ByteArray) : PS := { p with sent := IntKind.i64.wrap (p.sent + 1), n := p.n + 1, os := upF p.os p.n p.sent, ot := upF p.ot p.n s, og := upF p.og p.n true }
def sendS : Spec := .m fun args blks K => match args with
  | [.ptr 0 0, .v (.string s)] => ∃ p : PS, blks = p.tbl true ∧ ob (decide (p.n ≤ 1000000)) ((∀ e : Int, e ≠ 0 → K (.v (.int .i64 e)) (p.tbl true) []) ∧ (s.size ≤ 4000 → K (.v (.int .i64 0)) ((p.send s).tbl true) [2]))
  | _ => False
theorem sendS_ok : SpecOK Tryz.prog 8 sendS := by
  refine m_of mixed .nil Tryz.func8 rfl rfl fun args blks K h => ?_
  split at h
  case h_2 => exact h.elim
  rename_i s
  obtain ⟨p, rfl, h⟩ := h
  rw [ob_iff] at h
  simp only [decide_eq_true_eq] at h
  obtain ⟨hn, hK1, hK2⟩ := h
  refine ⟨noI, 8, ?_⟩
  rw [send_vf]
  refine bc_mk (fun _ => ⟨rfl, hK1 2 (by decide)⟩) (fun h1 => bc_mk (fun _ => ⟨rfl, hK1 7 (by decide)⟩) (fun _ => ?_))
  have h1 := of_decide_eq_false h1
  (repeat (first | (with_reducible refine ob_true ?_) | refine ob_mk (by first | (with_reducible exact beq_self_eq_true _) | (with_reducible exact nbeq _) | (with_reducible exact nble _) | (with_reducible exact seq_rfl _) | (with_reducible assumption) | (simp only [decide_eq_true_eq, Bool.and_eq_true, beq_iff_eq, Bool.true_and, Bool.and_true, Nat.beq_eq, Nat.ble_eq, true_and, and_true, ge_iff_le, gt_iff_lt]; first | done | omega)) ?_))
  exact ⟨rfl, hK2 (by omega)⟩

end Go.Proofs.YtpdkchpjekglaaaGreat.Sx
/- pipe: what goes out. No condition. -/
namespace Go.Proofs.YtpdkchpjekglaaaGreat.Sx
open Go Go.Proofs
set_option maxRecDepth 100000
set_option linter.unusedSimpArgs false
set_option linter.unusedVariables false

structure Po where
  q : Nat
  f : Nat → ByteArray
  og : Nat → Bool
  tk : List Int
  wd : Value → Int
  we : Value → Int
/-- An end behind some of its frames went out. -/
def PS.out (p : PS) (x : Po) : PS := { p with og := x.og, tk := x.tk, wd := x.wd, we := x.we }
def isFr (p : PS) (y : ByteArray) : Prop := (∃ r, r < p.n ∧ y = frB (p.os r) p.base (p.ot r)) ∨ y = frB (-1) p.base (bstr [])
def wfst (s : SV) : Int := match s with
  | .agg (.v (.int _ a) :: _) => a
  | _ => 0
def wsnd (s : SV) : Int := match s with
  | .agg (_ :: .v (.int _ a) :: _) => a
  | _ => 0
def poSh (p : PS) (now : Int) (dl : List Int) (k : Nat) (x : Po) : St := ⟨[(32, inat k), (31, .v (.int .i64 p.n)), (30, .slc 2 0 p.n p.n 3), (6, .slc 9 0 x.q x.q 1), (5, .slc 8 0 dl.length dl.length 1), (1, .v (.int .i64 now)), (0, .ptr 0 0)], 97,
  pT true p.room p.sent p.n p.os p.ot x.og p.m p.td p.owe p.base p.bk p.most x.tk x.wd x.we p.hk p.hg ++ [.ints true .i64 dl, .tab true x.q [.s x.f]], [], 8⟩
def poI (p : PS) (now : Int) : Nat → St → LK := fun _ st => match nth st.tbl 7 with
  | some (.map _ _ (.i _ tk) g) => .gh Po p.n ⟨0, fun _ => bstr [], p.og, tk, fun v => wfst (g v), fun v => wsnd (g v)⟩ (fun k x => tkOK x.tk = true ∧ x.q ≤ k ∧ ∀ j, j < x.q → isFr p (x.f j)) (poSh p now (gi st 8))
  | _ => .unroll 0
theorem poll_vf (p : PS) (now : Int) (K : SV → List Blk → List Nat → Prop) : vf Tryz.prog [(38, dueS), (39, bsrchS), (40, sentS), (41, pframeS), (42, fourS)] (poI p now) Tryz.f9 [.ptr 0 0, .v (.int .i64 now)] (PS.tbl true p) K =
  (bc (bif false then true else decide (now < (0 : Int))) (K (SV.v (Value.slice none (0 : Nat) (0 : Nat))) [Blk.cells true [SV.ptr (1 : Nat) (0 : Nat), SV.v (Value.int IntKind.i64 p.room), SV.v (Value.int IntKind.i64 p.sent), SV.slc (2 : Nat) (0 : Nat) p.n p.n (3 : Nat), SV.ptr (3 : Nat) (0 : Nat), SV.mp (4 : Nat), SV.slc (5 : Nat) (0 : Nat) p.m p.m (1 : Nat), SV.v (Value.bool p.owe)], Blk.cells true [SV.v (Value.int IntKind.i64 (64 : Int)), SV.v (Value.int IntKind.i64 p.base), SV.mp (6 : Nat)], Blk.tab true p.n [Col.i IntKind.i64 p.os, Col.s p.ot, Col.b p.og], Blk.cells true [SV.v (Value.int IntKind.i64 p.most), SV.mp (7 : Nat)], Blk.map true true (KS.i IntKind.i64 p.hk) (heldM p.hg), Blk.tab true p.m [Col.s p.td], Blk.map true true (KS.i IntKind.i64 p.bk) allT, Blk.map true true (KS.i IntKind.i64 p.tk) (waits p.wd p.we)] []) (bc (bif false then true else decide (now > (1099511627776 : Int))) (K (SV.v (Value.slice none (0 : Nat) (0 : Nat))) [Blk.cells true [SV.ptr (1 : Nat) (0 : Nat), SV.v (Value.int IntKind.i64 p.room), SV.v (Value.int IntKind.i64 p.sent), SV.slc (2 : Nat) (0 : Nat) p.n p.n (3 : Nat), SV.ptr (3 : Nat) (0 : Nat), SV.mp (4 : Nat), SV.slc (5 : Nat) (0 : Nat) p.m p.m (1 : Nat), SV.v (Value.bool p.owe)], Blk.cells true [SV.v (Value.int IntKind.i64 (64 : Int)), SV.v (Value.int IntKind.i64 p.base), SV.mp (6 : Nat)], Blk.tab true p.n [Col.i IntKind.i64 p.os, Col.s p.ot, Col.b p.og], Blk.cells true [SV.v (Value.int IntKind.i64 p.most), SV.mp (7 : Nat)], Blk.map true true (KS.i IntKind.i64 p.hk) (heldM p.hg), Blk.tab true p.m [Col.s p.td], Blk.map true true (KS.i IntKind.i64 p.bk) allT, Blk.map true true (KS.i IntKind.i64 p.tk) (waits p.wd p.we)] []) (∃ (d : Value → Int), ∃ (e : Value → Int), waits p.wd p.we = waits d e ∧ ob (decide ((0 : Int) ≤ now) && decide (now ≤ (1099511627776 : Int)) && tkOK p.tk) (∀ (l : List Int) (d' e' : Value → Int), l.length ≤ (1000 : Nat) → (tkOK (Po.mk (0 : Nat) (fun (x : Nat) => bstr []) p.og p.tk (fun (v : Value) => wfst (SV.agg [SV.v (Value.int IntKind.i64 (d' v)), SV.v (Value.int IntKind.i64 (e' v))])) fun (v : Value) => wsnd (SV.agg [SV.v (Value.int IntKind.i64 (d' v)), SV.v (Value.int IntKind.i64 (e' v))])).tk = true ∧ (Po.mk (0 : Nat) (fun (x : Nat) => bstr []) p.og p.tk (fun (v : Value) => wfst (SV.agg [SV.v (Value.int IntKind.i64 (d' v)), SV.v (Value.int IntKind.i64 (e' v))])) fun (v : Value) => wsnd (SV.agg [SV.v (Value.int IntKind.i64 (d' v)), SV.v (Value.int IntKind.i64 (e' v))])).q ≤ (0 : Nat) ∧ ∀ (j : Nat), j < (Po.mk (0 : Nat) (fun (x : Nat) => bstr []) p.og p.tk (fun (v : Value) => wfst (SV.agg [SV.v (Value.int IntKind.i64 (d' v)), SV.v (Value.int IntKind.i64 (e' v))])) fun (v : Value) => wsnd (SV.agg [SV.v (Value.int IntKind.i64 (d' v)), SV.v (Value.int IntKind.i64 (e' v))])).q → isFr p ((Po.mk (0 : Nat) (fun (x : Nat) => bstr []) p.og p.tk (fun (v : Value) => wfst (SV.agg [SV.v (Value.int IntKind.i64 (d' v)), SV.v (Value.int IntKind.i64 (e' v))])) fun (v : Value) => wsnd (SV.agg [SV.v (Value.int IntKind.i64 (d' v)), SV.v (Value.int IntKind.i64 (e' v))])).f j)) ∧ ob true (ob ((↑p.n : Int) == (↑p.n : Int)) (ob true (ob true (ob (p.n.beq p.n) (ob (p.n.ble p.n) (ob (p.n.ble p.n) (ob true (ob true (ob true (ob true (ob true (ob (l.length.beq l.length) (ob (l.length.ble l.length) (ob (l.length.ble l.length) (ob true (ob (now == now) (ob true (ob true (ob true (ob true (ob true (ob (p.room == p.room) (ob (p.sent == p.sent) (ob true (ob true (ob (p.n.beq p.n) (ob (p.n.ble p.n) (ob (p.n.ble p.n) (ob true (ob true (ob true (ob true (ob true (ob true (ob (p.m.beq p.m) (ob (p.m.ble p.m) (ob (p.m.ble p.m) (ob true (ob (p.owe == p.owe) (ob true (ob true (ob (p.base == p.base) (ob true (ob true (ob (p.n.ble p.n) ((∀ (r : Nat), r < p.n → p.os r = p.os r) ∧ (∀ (r : Nat), r < p.n → p.ot r = p.ot r) ∧ (∀ (r : Nat), r < p.n → p.og r = (Po.mk (0 : Nat) (fun (x : Nat) => bstr []) p.og p.tk (fun (v : Value) => wfst (SV.agg [SV.v (Value.int IntKind.i64 (d' v)), SV.v (Value.int IntKind.i64 (e' v))])) fun (v : Value) => wsnd (SV.agg [SV.v (Value.int IntKind.i64 (d' v)), SV.v (Value.int IntKind.i64 (e' v))])).og r) ∧ ob true (ob (p.most == p.most) (ob true (ob true (ob (p.hk == p.hk) ((∀ (y : Value), y ∈ (KS.i IntKind.i64 p.hk).vals → true = true ∧ p.hg y = p.hg y) ∧ ob true (ob (p.m.ble p.m) ((∀ (r : Nat), r < p.m → p.td r = p.td r) ∧ ob true (ob (p.bk == p.bk) ((∀ (y : Value), y ∈ (KS.i IntKind.i64 p.bk).vals → true = true ∧ true = true) ∧ ob true (ob (p.tk == (Po.mk (0 : Nat) (fun (x : Nat) => bstr []) p.og p.tk (fun (v : Value) => wfst (SV.agg [SV.v (Value.int IntKind.i64 (d' v)), SV.v (Value.int IntKind.i64 (e' v))])) fun (v : Value) => wsnd (SV.agg [SV.v (Value.int IntKind.i64 (d' v)), SV.v (Value.int IntKind.i64 (e' v))])).tk) ((∀ (y : Value), y ∈ (KS.i IntKind.i64 (Po.mk (0 : Nat) (fun (x : Nat) => bstr []) p.og p.tk (fun (v : Value) => wfst (SV.agg [SV.v (Value.int IntKind.i64 (d' v)), SV.v (Value.int IntKind.i64 (e' v))])) fun (v : Value) => wsnd (SV.agg [SV.v (Value.int IntKind.i64 (d' v)), SV.v (Value.int IntKind.i64 (e' v))])).tk).vals → true = true ∧ d' y = (Po.mk (0 : Nat) (fun (x : Nat) => bstr []) p.og p.tk (fun (v : Value) => wfst (SV.agg [SV.v (Value.int IntKind.i64 (d' v)), SV.v (Value.int IntKind.i64 (e' v))])) fun (v : Value) => wsnd (SV.agg [SV.v (Value.int IntKind.i64 (d' v)), SV.v (Value.int IntKind.i64 (e' v))])).wd y ∧ e' y = (Po.mk (0 : Nat) (fun (x : Nat) => bstr []) p.og p.tk (fun (v : Value) => wfst (SV.agg [SV.v (Value.int IntKind.i64 (d' v)), SV.v (Value.int IntKind.i64 (e' v))])) fun (v : Value) => wsnd (SV.agg [SV.v (Value.int IntKind.i64 (d' v)), SV.v (Value.int IntKind.i64 (e' v))])).we y ∧ True) ∧ ob true (ob (l == l) (ob true True ∧ ∀ (k : Nat), k ≤ p.n → ∀ (x : Po), (tkOK x.tk = true ∧ x.q ≤ k ∧ ∀ (j : Nat), j < x.q → isFr p (x.f j)) → bc (decide ((↑k : Int) < (↑p.n : Int))) (ob (true && decide ((↑k : Int) < (↑p.n : Int))) (ob true (ob (decide ((0 : Nat) + (↑k : Int).toNat < p.n)) (ob (l.length.beq l.length && l.length.beq l.length && decide (l.length ≤ (1000000 : Nat))) (∀ (i : Int) (b : Bool), bc (!x.og ((0 : Nat) + (↑k : Int).toNat)) (bc (bif true then !b else false) (k < p.n ∧ ∃ (x' : Po), (tkOK x'.tk = true ∧ x'.q ≤ k + (1 : Nat) ∧ ∀ (j : Nat), j < x'.q → isFr p (x'.f j)) ∧ ob (IntKind.i64.wrap ((↑k : Int) + (1 : Int)) == (↑(k + (1 : Nat)) : Int)) (ob ((↑p.n : Int) == (↑p.n : Int)) (ob true (ob true (ob (p.n.beq p.n) (ob (p.n.ble p.n) (ob (p.n.ble p.n) (ob true (ob true (ob true (ob (x.q.beq x'.q) (ob (x'.q.ble x.q) (ob (x'.q.ble x'.q) (ob true (ob true (ob true (ob (l.length.beq l.length) (ob (l.length.ble l.length) (ob (l.length.ble l.length) (ob true (ob (now == now) (ob true (ob true (ob true (ob true (ob true (ob (p.room == p.room) (ob (p.sent == p.sent) (ob true (ob true (ob (p.n.beq p.n) (ob (p.n.ble p.n) (ob (p.n.ble p.n) (ob true (ob true (ob true (ob true (ob true (ob true (ob (p.m.beq p.m) (ob (p.m.ble p.m) (ob (p.m.ble p.m) (ob true (ob (p.owe == p.owe) (ob true (ob true (ob (p.base == p.base) (ob true (ob true (ob (p.n.ble p.n) ((∀ (r : Nat), r < p.n → p.os r = p.os r) ∧ (∀ (r : Nat), r < p.n → p.ot r = p.ot r) ∧ (∀ (r : Nat), r < p.n → x.og r = x'.og r) ∧ ob true (ob (p.most == p.most) (ob true (ob true (ob (p.hk == p.hk) ((∀ (y : Value), y ∈ (KS.i IntKind.i64 p.hk).vals → true = true ∧ p.hg y = p.hg y) ∧ ob true (ob (p.m.ble p.m) ((∀ (r : Nat), r < p.m → p.td r = p.td r) ∧ ob true (ob (p.bk == p.bk) ((∀ (y : Value), y ∈ (KS.i IntKind.i64 p.bk).vals → true = true ∧ true = true) ∧ ob true (ob (x.tk == x'.tk) ((∀ (y : Value), y ∈ (KS.i IntKind.i64 x'.tk).vals → true = true ∧ x.wd y = x'.wd y ∧ x.we y = x'.we y ∧ True) ∧ ob true (ob (l == l) (ob true (ob (x'.q.ble x.q) ((∀ (r : Nat), r < x'.q → x.f r = x'.f r) ∧ True)))))))))))))))))))))))))))))))))))))))))))))))))))))))))))))))))) (bc (x.og ((0 : Nat) + (↑k : Int).toNat)) (∃ (d : Value → Int), ∃ (e : Value → Int), waits x.wd x.we = waits d e ∧ ob (decide ((0 : Int) ≤ p.os ((0 : Nat) + (↑k : Int).toNat)) && decide (p.os ((0 : Nat) + (↑k : Int).toNat) < (1000000 : Int)) && decide (p.most ≤ (64 : Int)) && tkOK x.tk) (∀ (b : Bool) (tk' : List Int) (d' e' : Value → Int), tkOK tk' = true → ob (true && decide ((↑k : Int) < (↑p.n : Int))) (ob (true && decide ((0 : Nat) + (↑k : Int).toNat < p.n)) (∃ (p_1 : PS), [Blk.cells false [SV.ptr (1 : Nat) (0 : Nat), SV.v (Value.int IntKind.i64 p.room), SV.v (Value.int IntKind.i64 p.sent), SV.slc (2 : Nat) (0 : Nat) p.n p.n (3 : Nat), SV.ptr (3 : Nat) (0 : Nat), SV.mp (4 : Nat), SV.slc (5 : Nat) (0 : Nat) p.m p.m (1 : Nat), SV.v (Value.bool p.owe)], Blk.cells false [SV.v (Value.int IntKind.i64 (64 : Int)), SV.v (Value.int IntKind.i64 p.base), SV.mp (6 : Nat)], Blk.tab false p.n [Col.i IntKind.i64 p.os, Col.s p.ot, Col.b (upF x.og ((0 : Nat) + (↑k : Int).toNat) false)], Blk.cells false [SV.v (Value.int IntKind.i64 p.most), SV.mp (7 : Nat)], Blk.map false true (KS.i IntKind.i64 p.hk) (heldM p.hg), Blk.tab false p.m [Col.s p.td], Blk.map false true (KS.i IntKind.i64 p.bk) allT, Blk.map false true (KS.i IntKind.i64 tk') (waits d' e')] = [Blk.cells false [SV.ptr (1 : Nat) (0 : Nat), SV.v (Value.int IntKind.i64 p_1.room), SV.v (Value.int IntKind.i64 p_1.sent), SV.slc (2 : Nat) (0 : Nat) p_1.n p_1.n (3 : Nat), SV.ptr (3 : Nat) (0 : Nat), SV.mp (4 : Nat), SV.slc (5 : Nat) (0 : Nat) p_1.m p_1.m (1 : Nat), SV.v (Value.bool p_1.owe)], Blk.cells false [SV.v (Value.int IntKind.i64 (64 : Int)), SV.v (Value.int IntKind.i64 p_1.base), SV.mp (6 : Nat)], Blk.tab false p_1.n [Col.i IntKind.i64 p_1.os, Col.s p_1.ot, Col.b p_1.og], Blk.cells false [SV.v (Value.int IntKind.i64 p_1.most), SV.mp (7 : Nat)], Blk.map false true (KS.i IntKind.i64 p_1.hk) (heldM p_1.hg), Blk.tab false p_1.m [Col.s p_1.td], Blk.map false true (KS.i IntKind.i64 p_1.bk) allT, Blk.map false true (KS.i IntKind.i64 p_1.tk) (waits p_1.wd p_1.we)] ∧ ob (decide ((fourB (p.os ((0 : Nat) + (↑k : Int).toNat))).size ≤ (4 : Nat)) && decide ((p.ot ((0 : Nat) + (↑k : Int).toNat)).size ≤ (4000 : Nat))) (ob true (ob ((x.q * (1 : Nat)).beq (x.q * (1 : Nat))) (ob (decide ((x.q + (1 : Nat)) * (16 : Nat) ≤ (140737488355328 : Nat))) (k < p.n ∧ ∃ (x' : Po), (tkOK x'.tk = true ∧ x'.q ≤ k + (1 : Nat) ∧ ∀ (j : Nat), j < x'.q → isFr p (x'.f j)) ∧ ob (IntKind.i64.wrap ((↑k : Int) + (1 : Int)) == (↑(k + (1 : Nat)) : Int)) (ob ((↑p.n : Int) == (↑p.n : Int)) (ob true (ob true (ob (p.n.beq p.n) (ob (p.n.ble p.n) (ob (p.n.ble p.n) (ob true (ob true (ob true (ob ((x.q + (1 : Nat)).beq x'.q) (ob (x'.q.ble (x.q + (1 : Nat))) (ob (x'.q.ble x'.q) (ob true (ob true (ob true (ob (l.length.beq l.length) (ob (l.length.ble l.length) (ob (l.length.ble l.length) (ob true (ob (now == now) (ob true (ob true (ob true (ob true (ob true (ob (p.room == p.room) (ob (p.sent == p.sent) (ob true (ob true (ob (p.n.beq p.n) (ob (p.n.ble p.n) (ob (p.n.ble p.n) (ob true (ob true (ob true (ob true (ob true (ob true (ob (p.m.beq p.m) (ob (p.m.ble p.m) (ob (p.m.ble p.m) (ob true (ob (p.owe == p.owe) (ob true (ob true (ob (p.base == p.base) (ob true (ob true (ob (p.n.ble p.n) ((∀ (r : Nat), r < p.n → p.os r = p.os r) ∧ (∀ (r : Nat), r < p.n → p.ot r = p.ot r) ∧ (∀ (r : Nat), r < p.n → upF x.og ((0 : Nat) + (↑k : Int).toNat) false r = x'.og r) ∧ ob true (ob (p.most == p.most) (ob true (ob true (ob (p.hk == p.hk) ((∀ (y : Value), y ∈ (KS.i IntKind.i64 p.hk).vals → true = true ∧ p.hg y = p.hg y) ∧ ob true (ob (p.m.ble p.m) ((∀ (r : Nat), r < p.m → p.td r = p.td r) ∧ ob true (ob (p.bk == p.bk) ((∀ (y : Value), y ∈ (KS.i IntKind.i64 p.bk).vals → true = true ∧ true = true) ∧ ob true (ob (tk' == x'.tk) ((∀ (y : Value), y ∈ (KS.i IntKind.i64 x'.tk).vals → true = true ∧ d' y = x'.wd y ∧ e' y = x'.we y ∧ True) ∧ ob true (ob (l == l) (ob true (ob (x'.q.ble (x.q + (1 : Nat))) ((∀ (r : Nat), r < x'.q → upF x.f x.q (recB (textsB [fourB (p.os ((0 : Nat) + (↑k : Int).toNat)), fourB p_1.base, p.ot ((0 : Nat) + (↑k : Int).toNat)])) r = x'.f r) ∧ True))))))))))))))))))))))))))))))))))))))))))))))))))))))))))))))))))))))))) (∃ (p_1 : PS), [Blk.cells false [SV.ptr (1 : Nat) (0 : Nat), SV.v (Value.int IntKind.i64 p.room), SV.v (Value.int IntKind.i64 p.sent), SV.slc (2 : Nat) (0 : Nat) p.n p.n (3 : Nat), SV.ptr (3 : Nat) (0 : Nat), SV.mp (4 : Nat), SV.slc (5 : Nat) (0 : Nat) p.m p.m (1 : Nat), SV.v (Value.bool p.owe)], Blk.cells false [SV.v (Value.int IntKind.i64 (64 : Int)), SV.v (Value.int IntKind.i64 p.base), SV.mp (6 : Nat)], Blk.tab false p.n [Col.i IntKind.i64 p.os, Col.s p.ot, Col.b x.og], Blk.cells false [SV.v (Value.int IntKind.i64 p.most), SV.mp (7 : Nat)], Blk.map false true (KS.i IntKind.i64 p.hk) (heldM p.hg), Blk.tab false p.m [Col.s p.td], Blk.map false true (KS.i IntKind.i64 p.bk) allT, Blk.map false true (KS.i IntKind.i64 x.tk) (waits x.wd x.we)] = [Blk.cells false [SV.ptr (1 : Nat) (0 : Nat), SV.v (Value.int IntKind.i64 p_1.room), SV.v (Value.int IntKind.i64 p_1.sent), SV.slc (2 : Nat) (0 : Nat) p_1.n p_1.n (3 : Nat), SV.ptr (3 : Nat) (0 : Nat), SV.mp (4 : Nat), SV.slc (5 : Nat) (0 : Nat) p_1.m p_1.m (1 : Nat), SV.v (Value.bool p_1.owe)], Blk.cells false [SV.v (Value.int IntKind.i64 (64 : Int)), SV.v (Value.int IntKind.i64 p_1.base), SV.mp (6 : Nat)], Blk.tab false p_1.n [Col.i IntKind.i64 p_1.os, Col.s p_1.ot, Col.b p_1.og], Blk.cells false [SV.v (Value.int IntKind.i64 p_1.most), SV.mp (7 : Nat)], Blk.map false true (KS.i IntKind.i64 p_1.hk) (heldM p_1.hg), Blk.tab false p_1.m [Col.s p_1.td], Blk.map false true (KS.i IntKind.i64 p_1.bk) allT, Blk.map false true (KS.i IntKind.i64 p_1.tk) (waits p_1.wd p_1.we)] ∧ ob (decide ((fourB (p.os ((0 : Nat) + (↑k : Int).toNat))).size ≤ (4 : Nat)) && decide ((p.ot ((0 : Nat) + (↑k : Int).toNat)).size ≤ (4000 : Nat))) (ob true (ob ((x.q * (1 : Nat)).beq (x.q * (1 : Nat))) (ob (decide ((x.q + (1 : Nat)) * (16 : Nat) ≤ (140737488355328 : Nat))) (k < p.n ∧ ∃ (x' : Po), (tkOK x'.tk = true ∧ x'.q ≤ k + (1 : Nat) ∧ ∀ (j : Nat), j < x'.q → isFr p (x'.f j)) ∧ ob (IntKind.i64.wrap ((↑k : Int) + (1 : Int)) == (↑(k + (1 : Nat)) : Int)) (ob ((↑p.n : Int) == (↑p.n : Int)) (ob true (ob true (ob (p.n.beq p.n) (ob (p.n.ble p.n) (ob (p.n.ble p.n) (ob true (ob true (ob true (ob ((x.q + (1 : Nat)).beq x'.q) (ob (x'.q.ble (x.q + (1 : Nat))) (ob (x'.q.ble x'.q) (ob true (ob true (ob true (ob (l.length.beq l.length) (ob (l.length.ble l.length) (ob (l.length.ble l.length) (ob true (ob (now == now) (ob true (ob true (ob true (ob true (ob true (ob (p.room == p.room) (ob (p.sent == p.sent) (ob true (ob true (ob (p.n.beq p.n) (ob (p.n.ble p.n) (ob (p.n.ble p.n) (ob true (ob true (ob true (ob true (ob true (ob true (ob (p.m.beq p.m) (ob (p.m.ble p.m) (ob (p.m.ble p.m) (ob true (ob (p.owe == p.owe) (ob true (ob true (ob (p.base == p.base) (ob true (ob true (ob (p.n.ble p.n) ((∀ (r : Nat), r < p.n → p.os r = p.os r) ∧ (∀ (r : Nat), r < p.n → p.ot r = p.ot r) ∧ (∀ (r : Nat), r < p.n → x.og r = x'.og r) ∧ ob true (ob (p.most == p.most) (ob true (ob true (ob (p.hk == p.hk) ((∀ (y : Value), y ∈ (KS.i IntKind.i64 p.hk).vals → true = true ∧ p.hg y = p.hg y) ∧ ob true (ob (p.m.ble p.m) ((∀ (r : Nat), r < p.m → p.td r = p.td r) ∧ ob true (ob (p.bk == p.bk) ((∀ (y : Value), y ∈ (KS.i IntKind.i64 p.bk).vals → true = true ∧ true = true) ∧ ob true (ob (x.tk == x'.tk) ((∀ (y : Value), y ∈ (KS.i IntKind.i64 x'.tk).vals → true = true ∧ x.wd y = x'.wd y ∧ x.we y = x'.we y ∧ True) ∧ ob true (ob (l == l) (ob true (ob (x'.q.ble (x.q + (1 : Nat))) ((∀ (r : Nat), r < x'.q → upF x.f x.q (recB (textsB [fourB (p.os ((0 : Nat) + (↑k : Int).toNat)), fourB p_1.base, p.ot ((0 : Nat) + (↑k : Int).toNat)])) r = x'.f r) ∧ True)))))))))))))))))))))))))))))))))))))))))))))))))))))))))))))))))))))))) (bc (x.og ((0 : Nat) + (↑k : Int).toNat)) (∃ (d : Value → Int), ∃ (e : Value → Int), waits x.wd x.we = waits d e ∧ ob (decide ((0 : Int) ≤ p.os ((0 : Nat) + (↑k : Int).toNat)) && decide (p.os ((0 : Nat) + (↑k : Int).toNat) < (1000000 : Int)) && decide (p.most ≤ (64 : Int)) && tkOK x.tk) (∀ (b : Bool) (tk' : List Int) (d' e' : Value → Int), tkOK tk' = true → ob (true && decide ((↑k : Int) < (↑p.n : Int))) (ob (true && decide ((0 : Nat) + (↑k : Int).toNat < p.n)) (∃ (p_1 : PS), [Blk.cells false [SV.ptr (1 : Nat) (0 : Nat), SV.v (Value.int IntKind.i64 p.room), SV.v (Value.int IntKind.i64 p.sent), SV.slc (2 : Nat) (0 : Nat) p.n p.n (3 : Nat), SV.ptr (3 : Nat) (0 : Nat), SV.mp (4 : Nat), SV.slc (5 : Nat) (0 : Nat) p.m p.m (1 : Nat), SV.v (Value.bool p.owe)], Blk.cells false [SV.v (Value.int IntKind.i64 (64 : Int)), SV.v (Value.int IntKind.i64 p.base), SV.mp (6 : Nat)], Blk.tab false p.n [Col.i IntKind.i64 p.os, Col.s p.ot, Col.b (upF x.og ((0 : Nat) + (↑k : Int).toNat) false)], Blk.cells false [SV.v (Value.int IntKind.i64 p.most), SV.mp (7 : Nat)], Blk.map false true (KS.i IntKind.i64 p.hk) (heldM p.hg), Blk.tab false p.m [Col.s p.td], Blk.map false true (KS.i IntKind.i64 p.bk) allT, Blk.map false true (KS.i IntKind.i64 tk') (waits d' e')] = [Blk.cells false [SV.ptr (1 : Nat) (0 : Nat), SV.v (Value.int IntKind.i64 p_1.room), SV.v (Value.int IntKind.i64 p_1.sent), SV.slc (2 : Nat) (0 : Nat) p_1.n p_1.n (3 : Nat), SV.ptr (3 : Nat) (0 : Nat), SV.mp (4 : Nat), SV.slc (5 : Nat) (0 : Nat) p_1.m p_1.m (1 : Nat), SV.v (Value.bool p_1.owe)], Blk.cells false [SV.v (Value.int IntKind.i64 (64 : Int)), SV.v (Value.int IntKind.i64 p_1.base), SV.mp (6 : Nat)], Blk.tab false p_1.n [Col.i IntKind.i64 p_1.os, Col.s p_1.ot, Col.b p_1.og], Blk.cells false [SV.v (Value.int IntKind.i64 p_1.most), SV.mp (7 : Nat)], Blk.map false true (KS.i IntKind.i64 p_1.hk) (heldM p_1.hg), Blk.tab false p_1.m [Col.s p_1.td], Blk.map false true (KS.i IntKind.i64 p_1.bk) allT, Blk.map false true (KS.i IntKind.i64 p_1.tk) (waits p_1.wd p_1.we)] ∧ ob (decide ((fourB (p.os ((0 : Nat) + (↑k : Int).toNat))).size ≤ (4 : Nat)) && decide ((p.ot ((0 : Nat) + (↑k : Int).toNat)).size ≤ (4000 : Nat))) (ob true (ob ((x.q * (1 : Nat)).beq (x.q * (1 : Nat))) (ob (decide ((x.q + (1 : Nat)) * (16 : Nat) ≤ (140737488355328 : Nat))) (k < p.n ∧ ∃ (x' : Po), (tkOK x'.tk = true ∧ x'.q ≤ k + (1 : Nat) ∧ ∀ (j : Nat), j < x'.q → isFr p (x'.f j)) ∧ ob (IntKind.i64.wrap ((↑k : Int) + (1 : Int)) == (↑(k + (1 : Nat)) : Int)) (ob ((↑p.n : Int) == (↑p.n : Int)) (ob true (ob true (ob (p.n.beq p.n) (ob (p.n.ble p.n) (ob (p.n.ble p.n) (ob true (ob true (ob true (ob ((x.q + (1 : Nat)).beq x'.q) (ob (x'.q.ble (x.q + (1 : Nat))) (ob (x'.q.ble x'.q) (ob true (ob true (ob true (ob (l.length.beq l.length) (ob (l.length.ble l.length) (ob (l.length.ble l.length) (ob true (ob (now == now) (ob true (ob true (ob true (ob true (ob true (ob (p.room == p.room) (ob (p.sent == p.sent) (ob true (ob true (ob (p.n.beq p.n) (ob (p.n.ble p.n) (ob (p.n.ble p.n) (ob true (ob true (ob true (ob true (ob true (ob true (ob (p.m.beq p.m) (ob (p.m.ble p.m) (ob (p.m.ble p.m) (ob true (ob (p.owe == p.owe) (ob true (ob true (ob (p.base == p.base) (ob true (ob true (ob (p.n.ble p.n) ((∀ (r : Nat), r < p.n → p.os r = p.os r) ∧ (∀ (r : Nat), r < p.n → p.ot r = p.ot r) ∧ (∀ (r : Nat), r < p.n → upF x.og ((0 : Nat) + (↑k : Int).toNat) false r = x'.og r) ∧ ob true (ob (p.most == p.most) (ob true (ob true (ob (p.hk == p.hk) ((∀ (y : Value), y ∈ (KS.i IntKind.i64 p.hk).vals → true = true ∧ p.hg y = p.hg y) ∧ ob true (ob (p.m.ble p.m) ((∀ (r : Nat), r < p.m → p.td r = p.td r) ∧ ob true (ob (p.bk == p.bk) ((∀ (y : Value), y ∈ (KS.i IntKind.i64 p.bk).vals → true = true ∧ true = true) ∧ ob true (ob (tk' == x'.tk) ((∀ (y : Value), y ∈ (KS.i IntKind.i64 x'.tk).vals → true = true ∧ d' y = x'.wd y ∧ e' y = x'.we y ∧ True) ∧ ob true (ob (l == l) (ob true (ob (x'.q.ble (x.q + (1 : Nat))) ((∀ (r : Nat), r < x'.q → upF x.f x.q (recB (textsB [fourB (p.os ((0 : Nat) + (↑k : Int).toNat)), fourB p_1.base, p.ot ((0 : Nat) + (↑k : Int).toNat)])) r = x'.f r) ∧ True))))))))))))))))))))))))))))))))))))))))))))))))))))))))))))))))))))))))) (∃ (p_1 : PS), [Blk.cells false [SV.ptr (1 : Nat) (0 : Nat), SV.v (Value.int IntKind.i64 p.room), SV.v (Value.int IntKind.i64 p.sent), SV.slc (2 : Nat) (0 : Nat) p.n p.n (3 : Nat), SV.ptr (3 : Nat) (0 : Nat), SV.mp (4 : Nat), SV.slc (5 : Nat) (0 : Nat) p.m p.m (1 : Nat), SV.v (Value.bool p.owe)], Blk.cells false [SV.v (Value.int IntKind.i64 (64 : Int)), SV.v (Value.int IntKind.i64 p.base), SV.mp (6 : Nat)], Blk.tab false p.n [Col.i IntKind.i64 p.os, Col.s p.ot, Col.b x.og], Blk.cells false [SV.v (Value.int IntKind.i64 p.most), SV.mp (7 : Nat)], Blk.map false true (KS.i IntKind.i64 p.hk) (heldM p.hg), Blk.tab false p.m [Col.s p.td], Blk.map false true (KS.i IntKind.i64 p.bk) allT, Blk.map false true (KS.i IntKind.i64 x.tk) (waits x.wd x.we)] = [Blk.cells false [SV.ptr (1 : Nat) (0 : Nat), SV.v (Value.int IntKind.i64 p_1.room), SV.v (Value.int IntKind.i64 p_1.sent), SV.slc (2 : Nat) (0 : Nat) p_1.n p_1.n (3 : Nat), SV.ptr (3 : Nat) (0 : Nat), SV.mp (4 : Nat), SV.slc (5 : Nat) (0 : Nat) p_1.m p_1.m (1 : Nat), SV.v (Value.bool p_1.owe)], Blk.cells false [SV.v (Value.int IntKind.i64 (64 : Int)), SV.v (Value.int IntKind.i64 p_1.base), SV.mp (6 : Nat)], Blk.tab false p_1.n [Col.i IntKind.i64 p_1.os, Col.s p_1.ot, Col.b p_1.og], Blk.cells false [SV.v (Value.int IntKind.i64 p_1.most), SV.mp (7 : Nat)], Blk.map false true (KS.i IntKind.i64 p_1.hk) (heldM p_1.hg), Blk.tab false p_1.m [Col.s p_1.td], Blk.map false true (KS.i IntKind.i64 p_1.bk) allT, Blk.map false true (KS.i IntKind.i64 p_1.tk) (waits p_1.wd p_1.we)] ∧ ob (decide ((fourB (p.os ((0 : Nat) + (↑k : Int).toNat))).size ≤ (4 : Nat)) && decide ((p.ot ((0 : Nat) + (↑k : Int).toNat)).size ≤ (4000 : Nat))) (ob true (ob ((x.q * (1 : Nat)).beq (x.q * (1 : Nat))) (ob (decide ((x.q + (1 : Nat)) * (16 : Nat) ≤ (140737488355328 : Nat))) (k < p.n ∧ ∃ (x' : Po), (tkOK x'.tk = true ∧ x'.q ≤ k + (1 : Nat) ∧ ∀ (j : Nat), j < x'.q → isFr p (x'.f j)) ∧ ob (IntKind.i64.wrap ((↑k : Int) + (1 : Int)) == (↑(k + (1 : Nat)) : Int)) (ob ((↑p.n : Int) == (↑p.n : Int)) (ob true (ob true (ob (p.n.beq p.n) (ob (p.n.ble p.n) (ob (p.n.ble p.n) (ob true (ob true (ob true (ob ((x.q + (1 : Nat)).beq x'.q) (ob (x'.q.ble (x.q + (1 : Nat))) (ob (x'.q.ble x'.q) (ob true (ob true (ob true (ob (l.length.beq l.length) (ob (l.length.ble l.length) (ob (l.length.ble l.length) (ob true (ob (now == now) (ob true (ob true (ob true (ob true (ob true (ob (p.room == p.room) (ob (p.sent == p.sent) (ob true (ob true (ob (p.n.beq p.n) (ob (p.n.ble p.n) (ob (p.n.ble p.n) (ob true (ob true (ob true (ob true (ob true (ob true (ob (p.m.beq p.m) (ob (p.m.ble p.m) (ob (p.m.ble p.m) (ob true (ob (p.owe == p.owe) (ob true (ob true (ob (p.base == p.base) (ob true (ob true (ob (p.n.ble p.n) ((∀ (r : Nat), r < p.n → p.os r = p.os r) ∧ (∀ (r : Nat), r < p.n → p.ot r = p.ot r) ∧ (∀ (r : Nat), r < p.n → x.og r = x'.og r) ∧ ob true (ob (p.most == p.most) (ob true (ob true (ob (p.hk == p.hk) ((∀ (y : Value), y ∈ (KS.i IntKind.i64 p.hk).vals → true = true ∧ p.hg y = p.hg y) ∧ ob true (ob (p.m.ble p.m) ((∀ (r : Nat), r < p.m → p.td r = p.td r) ∧ ob true (ob (p.bk == p.bk) ((∀ (y : Value), y ∈ (KS.i IntKind.i64 p.bk).vals → true = true ∧ true = true) ∧ ob true (ob (x.tk == x'.tk) ((∀ (y : Value), y ∈ (KS.i IntKind.i64 x'.tk).vals → true = true ∧ x.wd y = x'.wd y ∧ x.we y = x'.we y ∧ True) ∧ ob true (ob (l == l) (ob true (ob (x'.q.ble (x.q + (1 : Nat))) ((∀ (r : Nat), r < x'.q → upF x.f x.q (recB (textsB [fourB (p.os ((0 : Nat) + (↑k : Int).toNat)), fourB p_1.base, p.ot ((0 : Nat) + (↑k : Int).toNat)])) r = x'.f r) ∧ True)))))))))))))))))))))))))))))))))))))))))))))))))))))))))))))))))))))))))))) (bc ((↑x.q : Int) == (0 : Int)) (bc (bif true then p.owe else false) (∃ (p_1 : PS), [Blk.cells false [SV.ptr (1 : Nat) (0 : Nat), SV.v (Value.int IntKind.i64 p.room), SV.v (Value.int IntKind.i64 p.sent), SV.slc (2 : Nat) (0 : Nat) p.n p.n (3 : Nat), SV.ptr (3 : Nat) (0 : Nat), SV.mp (4 : Nat), SV.slc (5 : Nat) (0 : Nat) p.m p.m (1 : Nat), SV.v (Value.bool p.owe)], Blk.cells false [SV.v (Value.int IntKind.i64 (64 : Int)), SV.v (Value.int IntKind.i64 p.base), SV.mp (6 : Nat)], Blk.tab false p.n [Col.i IntKind.i64 p.os, Col.s p.ot, Col.b x.og], Blk.cells false [SV.v (Value.int IntKind.i64 p.most), SV.mp (7 : Nat)], Blk.map false true (KS.i IntKind.i64 p.hk) (heldM p.hg), Blk.tab false p.m [Col.s p.td], Blk.map false true (KS.i IntKind.i64 p.bk) allT, Blk.map false true (KS.i IntKind.i64 x.tk) (waits x.wd x.we)] = [Blk.cells false [SV.ptr (1 : Nat) (0 : Nat), SV.v (Value.int IntKind.i64 p_1.room), SV.v (Value.int IntKind.i64 p_1.sent), SV.slc (2 : Nat) (0 : Nat) p_1.n p_1.n (3 : Nat), SV.ptr (3 : Nat) (0 : Nat), SV.mp (4 : Nat), SV.slc (5 : Nat) (0 : Nat) p_1.m p_1.m (1 : Nat), SV.v (Value.bool p_1.owe)], Blk.cells false [SV.v (Value.int IntKind.i64 (64 : Int)), SV.v (Value.int IntKind.i64 p_1.base), SV.mp (6 : Nat)], Blk.tab false p_1.n [Col.i IntKind.i64 p_1.os, Col.s p_1.ot, Col.b p_1.og], Blk.cells false [SV.v (Value.int IntKind.i64 p_1.most), SV.mp (7 : Nat)], Blk.map false true (KS.i IntKind.i64 p_1.hk) (heldM p_1.hg), Blk.tab false p_1.m [Col.s p_1.td], Blk.map false true (KS.i IntKind.i64 p_1.bk) allT, Blk.map false true (KS.i IntKind.i64 p_1.tk) (waits p_1.wd p_1.we)] ∧ ob true (ob true (ob ((x.q * (1 : Nat)).beq (x.q * (1 : Nat))) (ob (decide ((x.q + (1 : Nat)) * (16 : Nat) ≤ (140737488355328 : Nat))) (K (SV.slc (9 : Nat) (0 : Nat) (x.q + (1 : Nat)) (x.q + (1 : Nat)) (1 : Nat)) [Blk.cells true [SV.ptr (1 : Nat) (0 : Nat), SV.v (Value.int IntKind.i64 p.room), SV.v (Value.int IntKind.i64 p.sent), SV.slc (2 : Nat) (0 : Nat) p.n p.n (3 : Nat), SV.ptr (3 : Nat) (0 : Nat), SV.mp (4 : Nat), SV.slc (5 : Nat) (0 : Nat) p.m p.m (1 : Nat), SV.v (Value.bool false)], Blk.cells true [SV.v (Value.int IntKind.i64 (64 : Int)), SV.v (Value.int IntKind.i64 p.base), SV.mp (6 : Nat)], Blk.tab true p.n [Col.i IntKind.i64 p.os, Col.s p.ot, Col.b x.og], Blk.cells true [SV.v (Value.int IntKind.i64 p.most), SV.mp (7 : Nat)], Blk.map true true (KS.i IntKind.i64 p.hk) (heldM p.hg), Blk.tab true p.m [Col.s p.td], Blk.map true true (KS.i IntKind.i64 p.bk) allT, Blk.map true true (KS.i IntKind.i64 x.tk) (waits x.wd x.we), Blk.ints true IntKind.i64 l, Blk.tab true (x.q + (1 : Nat)) [Col.s (upF x.f x.q (recB (textsB [ByteArray.mk (Array.mk []), fourB p_1.base, ByteArray.mk (Array.mk [])])))], Blk.cells true [SV.v (Value.string (recB (textsB [ByteArray.mk (Array.mk []), fourB p_1.base, ByteArray.mk (Array.mk [])])))]] []))))) (K (SV.slc (9 : Nat) (0 : Nat) x.q x.q (1 : Nat)) [Blk.cells true [SV.ptr (1 : Nat) (0 : Nat), SV.v (Value.int IntKind.i64 p.room), SV.v (Value.int IntKind.i64 p.sent), SV.slc (2 : Nat) (0 : Nat) p.n p.n (3 : Nat), SV.ptr (3 : Nat) (0 : Nat), SV.mp (4 : Nat), SV.slc (5 : Nat) (0 : Nat) p.m p.m (1 : Nat), SV.v (Value.bool false)], Blk.cells true [SV.v (Value.int IntKind.i64 (64 : Int)), SV.v (Value.int IntKind.i64 p.base), SV.mp (6 : Nat)], Blk.tab true p.n [Col.i IntKind.i64 p.os, Col.s p.ot, Col.b x.og], Blk.cells true [SV.v (Value.int IntKind.i64 p.most), SV.mp (7 : Nat)], Blk.map true true (KS.i IntKind.i64 p.hk) (heldM p.hg), Blk.tab true p.m [Col.s p.td], Blk.map true true (KS.i IntKind.i64 p.bk) allT, Blk.map true true (KS.i IntKind.i64 x.tk) (waits x.wd x.we), Blk.ints true IntKind.i64 l, Blk.tab true x.q [Col.s x.f]] [])) (K (SV.slc (9 : Nat) (0 : Nat) x.q x.q (1 : Nat)) [Blk.cells true [SV.ptr (1 : Nat) (0 : Nat), SV.v (Value.int IntKind.i64 p.room), SV.v (Value.int IntKind.i64 p.sent), SV.slc (2 : Nat) (0 : Nat) p.n p.n (3 : Nat), SV.ptr (3 : Nat) (0 : Nat), SV.mp (4 : Nat), SV.slc (5 : Nat) (0 : Nat) p.m p.m (1 : Nat), SV.v (Value.bool false)], Blk.cells true [SV.v (Value.int IntKind.i64 (64 : Int)), SV.v (Value.int IntKind.i64 p.base), SV.mp (6 : Nat)], Blk.tab true p.n [Col.i IntKind.i64 p.os, Col.s p.ot, Col.b x.og], Blk.cells true [SV.v (Value.int IntKind.i64 p.most), SV.mp (7 : Nat)], Blk.map true true (KS.i IntKind.i64 p.hk) (heldM p.hg), Blk.tab true p.m [Col.s p.td], Blk.map true true (KS.i IntKind.i64 p.bk) allT, Blk.map true true (KS.i IntKind.i64 x.tk) (waits x.wd x.we), Blk.ints true IntKind.i64 l, Blk.tab true x.q [Col.s x.f]] []))))))))))))))))))))))))))))))))))))))))))))))))))))))))))))))))) := by kernel_rfl
theorem isFr_def (p : PS) (y : ByteArray) : isFr p y = ((∃ r, r < p.n ∧ y = frB (p.os r) p.base (p.ot r)) ∨ y = frB (-1) p.base (bstr [])) := by rw [isFr]
theorem wfst_waits (d e : Value → Int) : (fun v => wfst (.agg [.v (.int .i64 (d v)), .v (.int .i64 (e v))])) = d := by funext v; rfl
theorem wsnd_waits (d e : Value → Int) : (fun v => wsnd (.agg [.v (.int .i64 (d v)), .v (.int .i64 (e v))])) = e := by funext v; rfl
theorem isFr_up {p : PS} {q : Nat} {f : Nat → ByteArray} {y : ByteArray} (h : ∀ j, j < q → isFr p (f j)) (hy : isFr p y) : ∀ j, j < q + 1 → isFr p (upF f q y j) := fun j hj => by
  unfold upF
  cases e : Nat.beq j q with
  | true => exact hy
  | false =>
    have : j ≠ q := fun h => by subst h; rw [Nat.beq_refl] at e; cases e
    exact h j (by omega)
def pollS : Spec := .m fun args blks K => match args with
  | [.ptr 0 0, .v (.int .i64 now)] => ∃ p : PS, blks = p.tbl true ∧ ob (((decide (0 ≤ now) && decide (now ≤ 1099511627776)) && tkOK p.tk) && (decide (p.n ≤ 1000000) && decide (p.most ≤ 64)))
      ((∀ r, r < p.n → (0 ≤ p.os r ∧ p.os r < 1000000) ∧ (p.ot r).size ≤ 4000) ∧ ∀ (owe : Bool) (x : Po), tkOK x.tk = true ∧ x.q ≤ p.n + 1 ∧ (∀ j, j < x.q → isFr p (x.f j)) → K (.slc 8 0 x.q x.q 1) (({ p.out x with owe := owe } : PS).tbl true ++ [.tab true x.q [.s x.f]]) [])
  | _ => False
theorem out_ok (room sent : Int) (n : Nat) (os : Nat → Int) (ot : Nat → ByteArray) (og : Nat → Bool) (m : Nat) (td : Nat → ByteArray) (owe : Bool) (base : Int) (bk : List Int) (most : Int) (tk : List Int) (wd we : Value → Int) (hk : List Int) (hg : Value → ByteArray) (l : List Int) (q : Nat) (f : Nat → ByteArray) (r : List Blk) :
    (headB 8 [0, 1, 2, 3, 4, 5, 6, 7, 9] 0 && okJs (pT true room sent n os ot og m td owe base bk most tk wd we hk hg ++ (.ints true .i64 l :: .tab true q [.s f] :: r)) [.slc 9 0 q q 1] [0, 1, 2, 3, 4, 5, 6, 7, 9]) = true := by kernel_rfl
theorem out_pick (room sent : Int) (n : Nat) (os : Nat → Int) (ot : Nat → ByteArray) (og : Nat → Bool) (m : Nat) (td : Nat → ByteArray) (owe : Bool) (base : Int) (bk : List Int) (most : Int) (tk : List Int) (wd we : Value → Int) (hk : List Int) (hg : Value → ByteArray) (l : List Int) (q : Nat) (f : Nat → ByteArray) (r : List Blk) :
    pick (pT true room sent n os ot og m td owe base bk most tk wd we hk hg ++ (.ints true .i64 l :: .tab true q [.s f] :: r)) (pos [0, 1, 2, 3, 4, 5, 6, 7, 9]) [0, 1, 2, 3, 4, 5, 6, 7, 9] = some (pT true room sent n os ot og m td owe base bk most tk wd we hk hg ++ [.tab true q [.s f]]) := by kernel_rfl
theorem frB_none (u : Int) : frB (-1) u (bstr []) = recB (textsB [⟨#[]⟩, fourB u, ⟨#[]⟩]) := by
  have eb : bstr [] = ⟨#[]⟩ := rfl
  rw [frB, seqB_neg (by decide), eb]
theorem out_ren (q : Nat) : (SV.slc 9 0 q q 1).ren (pos [0, 1, 2, 3, 4, 5, 6, 7, 9]) = .slc 8 0 q q 1 := by kernel_rfl
set_option maxHeartbeats 1000000 in
theorem pollS_ok : SpecOK Tryz.prog 9 pollS := by
  refine m_keep mixed (.cons dueS_ok (.cons bsrchS_ok (.cons sentS_ok (.cons pframeS_ok (.cons pfourS_ok .nil))))) Tryz.func9 rfl rfl fun args blks K h => ?_
  split at h
  case h_2 => exact h.elim
  rename_i now
  obtain ⟨p, rfl, h⟩ := h
  rw [ob_iff] at h
  simp only [Bool.and_eq_true, decide_eq_true_eq] at h
  obtain ⟨⟨⟨⟨hn0, hn1⟩, htk⟩, hn, hm⟩, hos, hK⟩ := h
  refine ⟨poI p now, [0, 1, 2, 3, 4, 5, 6, 7, 9], ?_⟩
  rw [poll_vf]
  refine bc_mk (fun h1 => absurd (of_decide_eq_true h1) (by omega)) (fun _ => bc_mk (fun h1 => absurd (of_decide_eq_true h1) (by omega)) (fun _ => ?_))
  refine ⟨p.wd, p.we, rfl, ob_mk (by rw [decide_eq_true hn0, decide_eq_true hn1, htk]; rfl) (fun l d0 e0 hl => ?_)⟩
  rw [wfst_waits, wsnd_waits]
  refine ⟨⟨htk, Nat.le_refl _, fun j hj => absurd hj (Nat.not_lt_zero j)⟩, ?_⟩
  (repeat (first | (with_reducible refine ob_true ?_) | refine ob_mk (by first | (with_reducible exact beq_self_eq_true _) | (with_reducible exact nbeq _) | (with_reducible exact nble _) | (with_reducible exact seq_rfl _) | (with_reducible assumption) | (simp only [decide_eq_true_eq, Bool.and_eq_true, beq_iff_eq, Bool.true_and, Bool.and_true, Nat.beq_eq, Nat.ble_eq, true_and, and_true, ge_iff_le, gt_iff_lt]; first | done | omega)) ?_))
  refine ⟨fun _ _ => by trivial, fun _ _ => by trivial, fun _ _ => by trivial, ?_⟩
  (repeat (first | (with_reducible refine ob_true ?_) | refine ob_mk (by first | (with_reducible exact beq_self_eq_true _) | (with_reducible exact nbeq _) | (with_reducible exact nble _) | (with_reducible exact seq_rfl _) | (with_reducible assumption) | (simp only [decide_eq_true_eq, Bool.and_eq_true, beq_iff_eq, Bool.true_and, Bool.and_true, Nat.beq_eq, Nat.ble_eq, true_and, and_true, ge_iff_le, gt_iff_lt]; first | done | omega)) ?_))
  refine ⟨fun _ _ => ⟨rfl, rfl⟩, ?_⟩
  (repeat (first | (with_reducible refine ob_true ?_) | refine ob_mk (by first | (with_reducible exact beq_self_eq_true _) | (with_reducible exact nbeq _) | (with_reducible exact nble _) | (with_reducible exact seq_rfl _) | (with_reducible assumption) | (simp only [decide_eq_true_eq, Bool.and_eq_true, beq_iff_eq, Bool.true_and, Bool.and_true, Nat.beq_eq, Nat.ble_eq, true_and, and_true, ge_iff_le, gt_iff_lt]; first | done | omega)) ?_))
  refine ⟨fun _ _ => by trivial, ?_⟩
  (repeat (first | (with_reducible refine ob_true ?_) | refine ob_mk (by first | (with_reducible exact beq_self_eq_true _) | (with_reducible exact nbeq _) | (with_reducible exact nble _) | (with_reducible exact seq_rfl _) | (with_reducible assumption) | (simp only [decide_eq_true_eq, Bool.and_eq_true, beq_iff_eq, Bool.true_and, Bool.and_true, Nat.beq_eq, Nat.ble_eq, true_and, and_true, ge_iff_le, gt_iff_lt]; first | done | omega)) ?_))
  refine ⟨fun _ _ => ⟨rfl, rfl⟩, ?_⟩
  (repeat (first | (with_reducible refine ob_true ?_) | refine ob_mk (by first | (with_reducible exact beq_self_eq_true _) | (with_reducible exact nbeq _) | (with_reducible exact nble _) | (with_reducible exact seq_rfl _) | (with_reducible assumption) | (simp only [decide_eq_true_eq, Bool.and_eq_true, beq_iff_eq, Bool.true_and, Bool.and_true, Nat.beq_eq, Nat.ble_eq, true_and, and_true, ge_iff_le, gt_iff_lt]; first | done | omega)) ?_))
  refine ⟨fun _ _ => ⟨rfl, rfl, rfl, trivial⟩, ?_⟩
  (repeat (first | (with_reducible refine ob_true ?_) | refine ob_mk (by first | (with_reducible exact beq_self_eq_true _) | (with_reducible exact nbeq _) | (with_reducible exact nble _) | (with_reducible exact seq_rfl _) | (with_reducible assumption) | (simp only [decide_eq_true_eq, Bool.and_eq_true, beq_iff_eq, Bool.true_and, Bool.and_true, Nat.beq_eq, Nat.ble_eq, true_and, and_true, ge_iff_le, gt_iff_lt]; first | done | omega)) ?_))
  refine ⟨by (repeat' (first | (with_reducible exact trivial) | (exact fun _ _ => rfl) | (exact fun _ _ => trivial) | (exact fun _ _ => ⟨rfl, rfl⟩) | (exact fun _ _ => ⟨rfl, rfl, rfl, trivial⟩) | (with_reducible refine ob_true ?_) | (with_reducible apply And.intro) | (with_reducible refine ob_mk ?hob ?_; case hob => exact (by first | (with_reducible exact beq_self_eq_true _) | (with_reducible exact nbeq _) | (with_reducible exact nble _) | (with_reducible exact seq_rfl _) | (with_reducible assumption) | (simp only [decide_eq_true_eq, Bool.and_eq_true, beq_iff_eq, Bool.true_and, Bool.and_true, Nat.beq_eq, Nat.ble_eq, true_and, and_true, ge_iff_le, gt_iff_lt]; first | done | omega))))), fun k hk x ⟨hx1, hx2, hx3⟩ => bc_mk (fun h1 => ?_) (fun h1 => ?_)⟩
  · have h1 := of_decide_eq_true h1
    have e1 : 0 + (k : Int).toNat = k := by omega
    have e1' : 0 / 3 + (k : Int).toNat = k := by omega
    have e2 : IntKind.i64.wrap ((k : Int) + 1) = ((k + 1 : Nat) : Int) := by rw [wrap_i64 _ (by omega) (by omega)]; omega
    have hk' : k < p.n := by omega
    obtain ⟨⟨ho0, ho1⟩, hos2⟩ := hos k hk'
    have hfr : isFr p (recB (textsB [fourB (p.os k), fourB p.base, p.ot k])) := by
      rw [isFr_def]
      exact .inl ⟨k, hk', by rw [frB, seqB_four ho0]⟩
    have hsent : ((decide (0 ≤ p.os k) && decide (p.os k < 1000000)) && decide (p.most ≤ 64) && tkOK x.tk) = true := by
      rw [decide_eq_true ho0, decide_eq_true ho1, decide_eq_true hm, hx1]; rfl
    rw [e1, e2]
    try rw [e1']
    have hd1 : decide (k < p.n) = true := decide_eq_true hk'
    have hd2 : (true && decide ((k : Int) < (p.n : Int))) = true := by rw [Bool.true_and]; exact decide_eq_true h1
    (repeat (first | (with_reducible refine ob_true ?_) | refine ob_mk (by first | (with_reducible exact beq_self_eq_true _) | (with_reducible exact nbeq _) | (with_reducible exact nble _) | (with_reducible exact seq_rfl _) | (with_reducible assumption) | (simp only [decide_eq_true_eq, Bool.and_eq_true, beq_iff_eq, Bool.true_and, Bool.and_true, Nat.beq_eq, Nat.ble_eq, true_and, and_true, ge_iff_le, gt_iff_lt]; first | done | omega)) ?_))
    intro i b
    refine bc_mk (fun _ => bc_mk (fun _ => ?_) (fun _ => ?_)) (fun _ => ?_)
    · refine ⟨by omega, x, ⟨hx1, by omega, hx3⟩, ?_⟩
      (repeat' (first | (with_reducible exact trivial) | (exact fun _ _ => rfl) | (exact fun _ _ => trivial) | (exact fun _ _ => ⟨rfl, rfl⟩) | (exact fun _ _ => ⟨rfl, rfl, rfl, trivial⟩) | (with_reducible refine ob_true ?_) | (with_reducible apply And.intro) | (with_reducible refine ob_mk ?hob ?_; case hob => exact (by first | (with_reducible exact beq_self_eq_true _) | (with_reducible exact nbeq _) | (with_reducible exact nble _) | (with_reducible exact seq_rfl _) | (with_reducible assumption) | (simp only [decide_eq_true_eq, Bool.and_eq_true, beq_iff_eq, Bool.true_and, Bool.and_true, Nat.beq_eq, Nat.ble_eq, true_and, and_true, ge_iff_le, gt_iff_lt]; first | done | omega)))))
    · skip
      refine bc_mk (fun _ => ?_) (fun _ => ?_)
      · skip
        refine ⟨x.wd, x.we, rfl, ob_mk hsent (fun b2 tk' d' e' ht => ?_)⟩
        (repeat (first | (with_reducible refine ob_true ?_) | refine ob_mk (by first | (with_reducible exact beq_self_eq_true _) | (with_reducible exact nbeq _) | (with_reducible exact nble _) | (with_reducible exact seq_rfl _) | (with_reducible assumption) | (simp only [decide_eq_true_eq, Bool.and_eq_true, beq_iff_eq, Bool.true_and, Bool.and_true, Nat.beq_eq, Nat.ble_eq, true_and, and_true, ge_iff_le, gt_iff_lt]; first | done | omega)) ?_))
        refine ⟨p.out ⟨x.q, x.f, upF x.og k false, tk', d', e'⟩, rfl, ?_⟩
        (repeat (first | (with_reducible refine ob_true ?_) | refine ob_mk (by first | (with_reducible exact beq_self_eq_true _) | (with_reducible exact nbeq _) | (with_reducible exact nble _) | (with_reducible exact seq_rfl _) | (with_reducible assumption) | (simp only [decide_eq_true_eq, Bool.and_eq_true, beq_iff_eq, Bool.true_and, Bool.and_true, Nat.beq_eq, Nat.ble_eq, true_and, and_true, ge_iff_le, gt_iff_lt, fourB_size]; first | done | omega)) ?_))
        refine ⟨by omega, ⟨x.q + 1, upF x.f x.q (recB (textsB [fourB (p.os k), fourB p.base, p.ot k])), upF x.og k false, tk', d', e'⟩, ⟨ht, by dsimp only; omega, isFr_up hx3 hfr⟩, ?_⟩
        (repeat' (first | (with_reducible exact trivial) | (exact fun _ _ => rfl) | (exact fun _ _ => trivial) | (exact fun _ _ => ⟨rfl, rfl⟩) | (exact fun _ _ => ⟨rfl, rfl, rfl, trivial⟩) | (with_reducible refine ob_true ?_) | (with_reducible apply And.intro) | (with_reducible refine ob_mk ?hob ?_; case hob => exact (by first | (with_reducible exact beq_self_eq_true _) | (with_reducible exact nbeq _) | (with_reducible exact nble _) | (with_reducible exact seq_rfl _) | (with_reducible assumption) | (simp only [decide_eq_true_eq, Bool.and_eq_true, beq_iff_eq, Bool.true_and, Bool.and_true, Nat.beq_eq, Nat.ble_eq, true_and, and_true, ge_iff_le, gt_iff_lt]; first | done | omega)))))
      · skip
        refine ⟨p.out ⟨x.q, x.f, x.og, x.tk, x.wd, x.we⟩, rfl, ?_⟩
        (repeat (first | (with_reducible refine ob_true ?_) | refine ob_mk (by first | (with_reducible exact beq_self_eq_true _) | (with_reducible exact nbeq _) | (with_reducible exact nble _) | (with_reducible exact seq_rfl _) | (with_reducible assumption) | (simp only [decide_eq_true_eq, Bool.and_eq_true, beq_iff_eq, Bool.true_and, Bool.and_true, Nat.beq_eq, Nat.ble_eq, true_and, and_true, ge_iff_le, gt_iff_lt, fourB_size]; first | done | omega)) ?_))
        refine ⟨by omega, ⟨x.q + 1, upF x.f x.q (recB (textsB [fourB (p.os k), fourB p.base, p.ot k])), x.og, x.tk, x.wd, x.we⟩, ⟨hx1, by dsimp only; omega, isFr_up hx3 hfr⟩, ?_⟩
        (repeat' (first | (with_reducible exact trivial) | (exact fun _ _ => rfl) | (exact fun _ _ => trivial) | (exact fun _ _ => ⟨rfl, rfl⟩) | (exact fun _ _ => ⟨rfl, rfl, rfl, trivial⟩) | (with_reducible refine ob_true ?_) | (with_reducible apply And.intro) | (with_reducible refine ob_mk ?hob ?_; case hob => exact (by first | (with_reducible exact beq_self_eq_true _) | (with_reducible exact nbeq _) | (with_reducible exact nble _) | (with_reducible exact seq_rfl _) | (with_reducible assumption) | (simp only [decide_eq_true_eq, Bool.and_eq_true, beq_iff_eq, Bool.true_and, Bool.and_true, Nat.beq_eq, Nat.ble_eq, true_and, and_true, ge_iff_le, gt_iff_lt]; first | done | omega)))))
    · skip
      refine bc_mk (fun _ => ?_) (fun _ => ?_)
      · skip
        refine ⟨x.wd, x.we, rfl, ob_mk hsent (fun b2 tk' d' e' ht => ?_)⟩
        (repeat (first | (with_reducible refine ob_true ?_) | refine ob_mk (by first | (with_reducible exact beq_self_eq_true _) | (with_reducible exact nbeq _) | (with_reducible exact nble _) | (with_reducible exact seq_rfl _) | (with_reducible assumption) | (simp only [decide_eq_true_eq, Bool.and_eq_true, beq_iff_eq, Bool.true_and, Bool.and_true, Nat.beq_eq, Nat.ble_eq, true_and, and_true, ge_iff_le, gt_iff_lt]; first | done | omega)) ?_))
        refine ⟨p.out ⟨x.q, x.f, upF x.og k false, tk', d', e'⟩, rfl, ?_⟩
        (repeat (first | (with_reducible refine ob_true ?_) | refine ob_mk (by first | (with_reducible exact beq_self_eq_true _) | (with_reducible exact nbeq _) | (with_reducible exact nble _) | (with_reducible exact seq_rfl _) | (with_reducible assumption) | (simp only [decide_eq_true_eq, Bool.and_eq_true, beq_iff_eq, Bool.true_and, Bool.and_true, Nat.beq_eq, Nat.ble_eq, true_and, and_true, ge_iff_le, gt_iff_lt, fourB_size]; first | done | omega)) ?_))
        refine ⟨by omega, ⟨x.q + 1, upF x.f x.q (recB (textsB [fourB (p.os k), fourB p.base, p.ot k])), upF x.og k false, tk', d', e'⟩, ⟨ht, by dsimp only; omega, isFr_up hx3 hfr⟩, ?_⟩
        (repeat' (first | (with_reducible exact trivial) | (exact fun _ _ => rfl) | (exact fun _ _ => trivial) | (exact fun _ _ => ⟨rfl, rfl⟩) | (exact fun _ _ => ⟨rfl, rfl, rfl, trivial⟩) | (with_reducible refine ob_true ?_) | (with_reducible apply And.intro) | (with_reducible refine ob_mk ?hob ?_; case hob => exact (by first | (with_reducible exact beq_self_eq_true _) | (with_reducible exact nbeq _) | (with_reducible exact nble _) | (with_reducible exact seq_rfl _) | (with_reducible assumption) | (simp only [decide_eq_true_eq, Bool.and_eq_true, beq_iff_eq, Bool.true_and, Bool.and_true, Nat.beq_eq, Nat.ble_eq, true_and, and_true, ge_iff_le, gt_iff_lt]; first | done | omega)))))
      · skip
        refine ⟨p.out ⟨x.q, x.f, x.og, x.tk, x.wd, x.we⟩, rfl, ?_⟩
        (repeat (first | (with_reducible refine ob_true ?_) | refine ob_mk (by first | (with_reducible exact beq_self_eq_true _) | (with_reducible exact nbeq _) | (with_reducible exact nble _) | (with_reducible exact seq_rfl _) | (with_reducible assumption) | (simp only [decide_eq_true_eq, Bool.and_eq_true, beq_iff_eq, Bool.true_and, Bool.and_true, Nat.beq_eq, Nat.ble_eq, true_and, and_true, ge_iff_le, gt_iff_lt, fourB_size]; first | done | omega)) ?_))
        refine ⟨by omega, ⟨x.q + 1, upF x.f x.q (recB (textsB [fourB (p.os k), fourB p.base, p.ot k])), x.og, x.tk, x.wd, x.we⟩, ⟨hx1, by dsimp only; omega, isFr_up hx3 hfr⟩, ?_⟩
        (repeat' (first | (with_reducible exact trivial) | (exact fun _ _ => rfl) | (exact fun _ _ => trivial) | (exact fun _ _ => ⟨rfl, rfl⟩) | (exact fun _ _ => ⟨rfl, rfl, rfl, trivial⟩) | (with_reducible refine ob_true ?_) | (with_reducible apply And.intro) | (with_reducible refine ob_mk ?hob ?_; case hob => exact (by first | (with_reducible exact beq_self_eq_true _) | (with_reducible exact nbeq _) | (with_reducible exact nble _) | (with_reducible exact seq_rfl _) | (with_reducible assumption) | (simp only [decide_eq_true_eq, Bool.and_eq_true, beq_iff_eq, Bool.true_and, Bool.and_true, Nat.beq_eq, Nat.ble_eq, true_and, and_true, ge_iff_le, gt_iff_lt]; first | done | omega)))))
  · have h1 := of_decide_eq_false h1
    have hk' : k = p.n := by omega
    refine bc_mk (fun _ => bc_mk (fun _ => ?_) (fun _ => ?_)) (fun _ => ?_)
    · refine ⟨p.out x, rfl, ?_⟩
      (repeat (first | (with_reducible refine ob_true ?_) | refine ob_mk (by first | (with_reducible exact beq_self_eq_true _) | (with_reducible exact nbeq _) | (with_reducible exact nble _) | (with_reducible exact seq_rfl _) | (with_reducible assumption) | (simp only [decide_eq_true_eq, Bool.and_eq_true, beq_iff_eq, Bool.true_and, Bool.and_true, Nat.beq_eq, Nat.ble_eq, true_and, and_true, ge_iff_le, gt_iff_lt]; first | done | omega)) ?_))
      refine ⟨out_ok p.room p.sent p.n p.os p.ot x.og p.m p.td false p.base p.bk p.most x.tk x.wd x.we p.hk p.hg l _ _ _, _, out_pick p.room p.sent p.n p.os p.ot x.og p.m p.td false p.base p.bk p.most x.tk x.wd x.we p.hk p.hg l _ _ _, ?_⟩
      rw [out_ren]
      refine hK false ⟨x.q + 1, upF x.f x.q (recB (textsB [⟨#[]⟩, fourB p.base, ⟨#[]⟩])), x.og, x.tk, x.wd, x.we⟩ ⟨hx1, by dsimp only; omega, isFr_up hx3 ?_⟩
      rw [isFr_def, frB_none]
      exact .inr rfl
    · refine ⟨out_ok p.room p.sent p.n p.os p.ot x.og p.m p.td false p.base p.bk p.most x.tk x.wd x.we p.hk p.hg l x.q x.f [], _, out_pick p.room p.sent p.n p.os p.ot x.og p.m p.td false p.base p.bk p.most x.tk x.wd x.we p.hk p.hg l x.q x.f [], ?_⟩
      rw [out_ren]
      exact hK false x ⟨hx1, by omega, hx3⟩
    · refine ⟨out_ok p.room p.sent p.n p.os p.ot x.og p.m p.td false p.base p.bk p.most x.tk x.wd x.we p.hk p.hg l x.q x.f [], _, out_pick p.room p.sent p.n p.os p.ot x.og p.m p.td false p.base p.bk p.most x.tk x.wd x.we p.hk p.hg l x.q x.f [], ?_⟩
      rw [out_ren]
      exact hK false x ⟨hx1, by omega, hx3⟩

end Go.Proofs.YtpdkchpjekglaaaGreat.Sx
/- pipe: a frame is taken. No condition. -/
namespace Go.Proofs.YtpdkchpjekglaaaGreat.Sx
open Go Go.Proofs
set_option maxRecDepth 100000
set_option linter.unusedSimpArgs false
set_option linter.unusedVariables false

structure Tk where
  td : Nat → ByteArray
  hk : List Int
def strOf (s : SV) : ByteArray := match s with
  | .v (.string x) => x
  | _ => ⟨#[]⟩
def lkH (hk : List Int) (g : Value → SV) (i : Int) : ByteArray := strOf (mixS (hasI hk i) (g (.int .i64 i)) (.v (.string ⟨#[]⟩)))
def st_B (st : St) : Int := match nth st.tbl 1 with
  | some (.cells _ [_, .v (.int _ b), _]) => b
  | _ => 0
def st_C (st : St) : List SV := match nth st.tbl 0 with
  | some (.cells _ l) => l
  | _ => []
def st_G (st : St) (i : Nat) : Value → SV := match nth st.tbl i with
  | some (.map _ _ _ g) => g
  | _ => fun _ => .unk
def st_H (st : St) : List Int := match nth st.tbl 4 with
  | some (.map _ _ (.i _ l) _) => l
  | _ => []
def tkSh (p : PS) (st : St) (k : Nat) (x : Tk) : St := ⟨[(10, .v (.int .i64 (p.base + k))), (0, .ptr 0 0)], 90,
  (((st.tbl.take 8).set 0 (.cells true ((st_C st).set 6 (.slc 5 0 (p.m + k) (p.m + k) 1)))).set 4 (.map true true (.i .i64 x.hk) (st_G st 4))).set 5 (.tab true (p.m + k) [.s x.td]), [5], 8⟩
def tkQ (m : Nat) (td : Nat → ByteArray) (b : Int) (hk : List Int) (g : Value → SV) (k : Nat) (td' : Nat → ByteArray) (hk' : List Int) : Prop :=
  (∀ r, r < m → td' r = td r) ∧ (∀ j : Nat, j < k → td' (m + j) = lkH hk g (b + j)) ∧ (∀ y ∈ hk', y ∈ hk) ∧ ∀ i ∈ hk, (i < b ∨ b + k ≤ i) → i ∈ hk'
def tkI (p : PS) : Nat → St → LK := fun _ st => .gh Tk (st_B st - p.base).toNat ⟨p.td, st_H st⟩ (fun k x => tkQ p.m p.td p.base (st_H st) (st_G st 4) k x.td x.hk) (tkSh p st)
theorem take_vf (p : PS) (x : ByteArray) (K : SV → List Blk → List Nat → Prop) : vf Tryz.prog [(43, preadS), (44, ackedS), (45, deleteS), (47, baseS), (48, wtakeS)] (tkI p) Tryz.f10 [.ptr 0 0, .v (.string x)] (PS.tbl true p) K =
  (∃ (n : Int), ∃ (u : Int), ∃ (t : ByteArray), x = frB n u t ∧ (n < (0 : Int) → t.size = (0 : Nat)) ∧ ob (decide ((-1 : Int) ≤ n) && decide (n < (2147483648 : Int)) && (decide ((0 : Int) ≤ u) && decide (u < (2147483648 : Int)) && decide (t.size ≤ (4000 : Nat)))) (∃ (d : Value → Int), ∃ (e : Value → Int), waits p.wd p.we = waits d e ∧ ob (tkOK p.tk) (∀ (n_1 : Int) (tk' : List Int), tkOK tk' = true → ob (p.n.beq p.n && p.n.beq p.n && decide (p.n ≤ (1000000 : Nat))) (∀ (m : Nat) (os' : Nat → Int) (ot' : Nat → ByteArray) (og' : Nat → Bool), m ≤ p.n ∧ subR p.n p.os p.ot p.og m os' ot' og' → bc (decide (n < (0 : Int))) (K (SV.v (Value.int IntKind.i64 (0 : Int))) [Blk.cells true [SV.ptr (1 : Nat) (0 : Nat), SV.v (Value.int IntKind.i64 p.room), SV.v (Value.int IntKind.i64 p.sent), SV.slc (2 : Nat) (0 : Nat) m m (3 : Nat), SV.ptr (3 : Nat) (0 : Nat), SV.mp (4 : Nat), SV.slc (5 : Nat) (0 : Nat) p.m p.m (1 : Nat), SV.v (Value.bool p.owe)], Blk.cells true [SV.v (Value.int IntKind.i64 (64 : Int)), SV.v (Value.int IntKind.i64 p.base), SV.mp (6 : Nat)], Blk.tab true m [Col.i IntKind.i64 os', Col.s ot', Col.b og'], Blk.cells true [SV.v (Value.int IntKind.i64 p.most), SV.mp (7 : Nat)], Blk.map true true (KS.i IntKind.i64 p.hk) (heldM p.hg), Blk.tab true p.m [Col.s p.td], Blk.map true true (KS.i IntKind.i64 p.bk) allT, Blk.map true true (KS.i IntKind.i64 tk') (waits d e), Blk.ints true IntKind.i64 [u]] []) (allT = allT ∧ ob (decide (p.bk.length ≤ (1000 : Nat)) && (decide ((0 : Int) ≤ p.base) && decide (p.base < (1000000 : Int)))) (∀ (f : Bool) (b' : Int) (bk' : List Int), winP p.base n p.bk f b' bk' ∧ bk'.length ≤ p.bk.length + (1 : Nat) → bc f (tkQ p.m p.td p.base (Bool.rec (p.hk ++ [n]) p.hk (hasI p.hk n)) (fun (v : Value) => SV.v (Value.string (bif keq (Value.int IntKind.i64 n) v then t else p.hg v))) (0 : Nat) (Tk.mk p.td (Bool.rec (p.hk ++ [n]) p.hk (hasI p.hk n))).td (Tk.mk p.td (Bool.rec (p.hk ++ [n]) p.hk (hasI p.hk n))).hk ∧ ob (p.base == p.base + (0 : Int)) (ob true (ob true (ob true (ob true (ob true (ob (p.room == p.room) (ob (p.sent == p.sent) (ob true (ob true (ob (m.beq m) (ob (m.ble m) (ob (m.ble m) (ob true (ob true (ob true (ob true (ob true (ob true (ob (p.m.beq (p.m + (0 : Nat))) (ob ((p.m + (0 : Nat)).ble p.m) (ob ((p.m + (0 : Nat)).ble (p.m + (0 : Nat))) (ob true (ob true (ob true (ob true (ob (b' == b') (ob true (ob true (ob (m.ble m) ((∀ (r : Nat), r < m → os' r = os' r) ∧ (∀ (r : Nat), r < m → ot' r = ot' r) ∧ (∀ (r : Nat), r < m → og' r = og' r) ∧ ob true (ob (p.most == p.most) (ob true (ob true (ob (insI p.hk n == (Tk.mk p.td (Bool.rec (p.hk ++ [n]) p.hk (hasI p.hk n))).hk) ((∀ (y : Value), y ∈ (KS.i IntKind.i64 (Tk.mk p.td (Bool.rec (p.hk ++ [n]) p.hk (hasI p.hk n))).hk).vals → true = true ∧ (bif keq (Value.int IntKind.i64 n) y then t else p.hg y) = bif keq (Value.int IntKind.i64 n) y then t else p.hg y) ∧ ob true (ob ((p.m + (0 : Nat)).ble p.m) ((∀ (r : Nat), r < p.m + (0 : Nat) → p.td r = (Tk.mk p.td (Bool.rec (p.hk ++ [n]) p.hk (hasI p.hk n))).td r) ∧ ob true (ob (bk' == bk') ((∀ (y : Value), y ∈ (KS.i IntKind.i64 bk').vals → true = true ∧ true = true) ∧ ob true (ob (tk' == tk') ((∀ (y : Value), y ∈ (KS.i IntKind.i64 tk').vals → true = true ∧ d y = d y ∧ e y = e y ∧ True) ∧ ∀ (k : Nat), k ≤ (b' - p.base).toNat → ∀ (x : Tk), tkQ p.m p.td p.base (Bool.rec (p.hk ++ [n]) p.hk (hasI p.hk n)) (fun (v : Value) => SV.v (Value.string (bif keq (Value.int IntKind.i64 n) v then t else p.hg v))) k x.td x.hk → bc (decide (p.base + (↑k : Int) < b')) (ob true (ob (((p.m + k) * (1 : Nat)).beq ((p.m + k) * (1 : Nat))) (ob (decide ((p.m + k + (1 : Nat)) * (16 : Nat) ≤ (140737488355328 : Nat))) (k < (b' - p.base).toNat ∧ ∃ (x' : Tk), tkQ p.m p.td p.base (Bool.rec (p.hk ++ [n]) p.hk (hasI p.hk n)) (fun (v : Value) => SV.v (Value.string (bif keq (Value.int IntKind.i64 n) v then t else p.hg v))) (k + (1 : Nat)) x'.td x'.hk ∧ ob (IntKind.i64.wrap (p.base + (↑k : Int) + (1 : Int)) == p.base + (↑(k + (1 : Nat)) : Int)) (ob true (ob true (ob true (ob true (ob true (ob (p.room == p.room) (ob (p.sent == p.sent) (ob true (ob true (ob (m.beq m) (ob (m.ble m) (ob (m.ble m) (ob true (ob true (ob true (ob true (ob true (ob true (ob ((p.m + k + (1 : Nat)).beq (p.m + (k + (1 : Nat)))) (ob ((p.m + (k + (1 : Nat))).ble (p.m + k + (1 : Nat))) (ob ((p.m + (k + (1 : Nat))).ble (p.m + (k + (1 : Nat)))) (ob true (ob true (ob true (ob true (ob (b' == b') (ob true (ob true (ob (m.ble m) ((∀ (r : Nat), r < m → os' r = os' r) ∧ (∀ (r : Nat), r < m → ot' r = ot' r) ∧ (∀ (r : Nat), r < m → og' r = og' r) ∧ ob true (ob (p.most == p.most) (ob true (ob true (ob (delI x.hk (p.base + (↑k : Int)) == x'.hk) ((∀ (y : Value), y ∈ (KS.i IntKind.i64 x'.hk).vals → true = true ∧ (bif keq (Value.int IntKind.i64 n) y then t else p.hg y) = bif keq (Value.int IntKind.i64 n) y then t else p.hg y) ∧ ob true (ob ((p.m + (k + (1 : Nat))).ble (p.m + k + (1 : Nat))) ((∀ (r : Nat), r < p.m + (k + (1 : Nat)) → upF x.td (p.m + k) (bif hasK (KS.i IntKind.i64 x.hk) (Ky.i IntKind.i64 (p.base + (↑k : Int))) then bif keq (Value.int IntKind.i64 n) (Value.int IntKind.i64 (p.base + (↑k : Int))) then t else p.hg (Value.int IntKind.i64 (p.base + (↑k : Int))) else ByteArray.mk (Array.mk [])) r = x'.td r) ∧ ob true (ob (bk' == bk') ((∀ (y : Value), y ∈ (KS.i IntKind.i64 bk').vals → true = true ∧ true = true) ∧ ob true (ob (tk' == tk') ((∀ (y : Value), y ∈ (KS.i IntKind.i64 tk').vals → true = true ∧ d y = d y ∧ e y = e y ∧ True) ∧ True))))))))))))))))))))))))))))))))))))))))))))) (K (SV.v (Value.int IntKind.i64 (0 : Int))) [Blk.cells true [SV.ptr (1 : Nat) (0 : Nat), SV.v (Value.int IntKind.i64 p.room), SV.v (Value.int IntKind.i64 p.sent), SV.slc (2 : Nat) (0 : Nat) m m (3 : Nat), SV.ptr (3 : Nat) (0 : Nat), SV.mp (4 : Nat), SV.slc (5 : Nat) (0 : Nat) (p.m + k) (p.m + k) (1 : Nat), SV.v (Value.bool true)], Blk.cells true [SV.v (Value.int IntKind.i64 (64 : Int)), SV.v (Value.int IntKind.i64 b'), SV.mp (6 : Nat)], Blk.tab true m [Col.i IntKind.i64 os', Col.s ot', Col.b og'], Blk.cells true [SV.v (Value.int IntKind.i64 p.most), SV.mp (7 : Nat)], Blk.map true true (KS.i IntKind.i64 x.hk) fun (v : Value) => SV.v (Value.string (bif keq (Value.int IntKind.i64 n) v then t else p.hg v)), Blk.tab true (p.m + k) [Col.s x.td], Blk.map true true (KS.i IntKind.i64 bk') allT, Blk.map true true (KS.i IntKind.i64 tk') (waits d e)] [(5 : Nat)]))))))))))))))))))))))))))))))))))))))))))) (tkQ p.m p.td p.base p.16 (fun (v : Value) => SV.v (Value.string (p.hg v))) (0 : Nat) (Tk.mk p.td p.16).td (Tk.mk p.td p.16).hk ∧ ob (p.base == p.base + (0 : Int)) (ob true (ob true (ob true (ob true (ob true (ob (p.room == p.room) (ob (p.sent == p.sent) (ob true (ob true (ob (m.beq m) (ob (m.ble m) (ob (m.ble m) (ob true (ob true (ob true (ob true (ob true (ob true (ob (p.m.beq (p.m + (0 : Nat))) (ob ((p.m + (0 : Nat)).ble p.m) (ob ((p.m + (0 : Nat)).ble (p.m + (0 : Nat))) (ob true (ob true (ob true (ob true (ob (b' == b') (ob true (ob true (ob (m.ble m) ((∀ (r : Nat), r < m → os' r = os' r) ∧ (∀ (r : Nat), r < m → ot' r = ot' r) ∧ (∀ (r : Nat), r < m → og' r = og' r) ∧ ob true (ob (p.most == p.most) (ob true (ob true (ob (p.hk == (Tk.mk p.td p.16).hk) ((∀ (y : Value), y ∈ (KS.i IntKind.i64 (Tk.mk p.td p.16).hk).vals → true = true ∧ p.hg y = p.hg y) ∧ ob true (ob ((p.m + (0 : Nat)).ble p.m) ((∀ (r : Nat), r < p.m + (0 : Nat) → p.td r = (Tk.mk p.td p.16).td r) ∧ ob true (ob (bk' == bk') ((∀ (y : Value), y ∈ (KS.i IntKind.i64 bk').vals → true = true ∧ true = true) ∧ ob true (ob (tk' == tk') ((∀ (y : Value), y ∈ (KS.i IntKind.i64 tk').vals → true = true ∧ d y = d y ∧ e y = e y ∧ True) ∧ ∀ (k : Nat), k ≤ (b' - p.base).toNat → ∀ (x : Tk), tkQ p.m p.td p.base p.16 (fun (v : Value) => SV.v (Value.string (p.hg v))) k x.td x.hk → bc (decide (p.base + (↑k : Int) < b')) (ob true (ob (((p.m + k) * (1 : Nat)).beq ((p.m + k) * (1 : Nat))) (ob (decide ((p.m + k + (1 : Nat)) * (16 : Nat) ≤ (140737488355328 : Nat))) (k < (b' - p.base).toNat ∧ ∃ (x' : Tk), tkQ p.m p.td p.base p.16 (fun (v : Value) => SV.v (Value.string (p.hg v))) (k + (1 : Nat)) x'.td x'.hk ∧ ob (IntKind.i64.wrap (p.base + (↑k : Int) + (1 : Int)) == p.base + (↑(k + (1 : Nat)) : Int)) (ob true (ob true (ob true (ob true (ob true (ob (p.room == p.room) (ob (p.sent == p.sent) (ob true (ob true (ob (m.beq m) (ob (m.ble m) (ob (m.ble m) (ob true (ob true (ob true (ob true (ob true (ob true (ob ((p.m + k + (1 : Nat)).beq (p.m + (k + (1 : Nat)))) (ob ((p.m + (k + (1 : Nat))).ble (p.m + k + (1 : Nat))) (ob ((p.m + (k + (1 : Nat))).ble (p.m + (k + (1 : Nat)))) (ob true (ob true (ob true (ob true (ob (b' == b') (ob true (ob true (ob (m.ble m) ((∀ (r : Nat), r < m → os' r = os' r) ∧ (∀ (r : Nat), r < m → ot' r = ot' r) ∧ (∀ (r : Nat), r < m → og' r = og' r) ∧ ob true (ob (p.most == p.most) (ob true (ob true (ob (delI x.hk (p.base + (↑k : Int)) == x'.hk) ((∀ (y : Value), y ∈ (KS.i IntKind.i64 x'.hk).vals → true = true ∧ p.hg y = p.hg y) ∧ ob true (ob ((p.m + (k + (1 : Nat))).ble (p.m + k + (1 : Nat))) ((∀ (r : Nat), r < p.m + (k + (1 : Nat)) → upF x.td (p.m + k) (bif hasK (KS.i IntKind.i64 x.hk) (Ky.i IntKind.i64 (p.base + (↑k : Int))) then p.hg (Value.int IntKind.i64 (p.base + (↑k : Int))) else ByteArray.mk (Array.mk [])) r = x'.td r) ∧ ob true (ob (bk' == bk') ((∀ (y : Value), y ∈ (KS.i IntKind.i64 bk').vals → true = true ∧ true = true) ∧ ob true (ob (tk' == tk') ((∀ (y : Value), y ∈ (KS.i IntKind.i64 tk').vals → true = true ∧ d y = d y ∧ e y = e y ∧ True) ∧ True))))))))))))))))))))))))))))))))))))))))))))) (K (SV.v (Value.int IntKind.i64 (0 : Int))) [Blk.cells true [SV.ptr (1 : Nat) (0 : Nat), SV.v (Value.int IntKind.i64 p.room), SV.v (Value.int IntKind.i64 p.sent), SV.slc (2 : Nat) (0 : Nat) m m (3 : Nat), SV.ptr (3 : Nat) (0 : Nat), SV.mp (4 : Nat), SV.slc (5 : Nat) (0 : Nat) (p.m + k) (p.m + k) (1 : Nat), SV.v (Value.bool true)], Blk.cells true [SV.v (Value.int IntKind.i64 (64 : Int)), SV.v (Value.int IntKind.i64 b'), SV.mp (6 : Nat)], Blk.tab true m [Col.i IntKind.i64 os', Col.s ot', Col.b og'], Blk.cells true [SV.v (Value.int IntKind.i64 p.most), SV.mp (7 : Nat)], Blk.map true true (KS.i IntKind.i64 x.hk) fun (v : Value) => SV.v (Value.string (p.hg v)), Blk.tab true (p.m + k) [Col.s x.td], Blk.map true true (KS.i IntKind.i64 bk') allT, Blk.map true true (KS.i IntKind.i64 tk') (waits d e)] [(5 : Nat)]))))))))))))))))))))))))))))))))))))))))))))))))) := by kernel_rfl
theorem tkQ_def (m : Nat) (td : Nat → ByteArray) (b : Int) (hk : List Int) (g : Value → SV) (k : Nat) (td' : Nat → ByteArray) (hk' : List Int) : tkQ m td b hk g k td' hk' =
  ((∀ r, r < m → td' r = td r) ∧ (∀ j : Nat, j < k → td' (m + j) = lkH hk g (b + j)) ∧ (∀ y ∈ hk', y ∈ hk) ∧ ∀ i ∈ hk, (i < b ∨ b + k ≤ i) → i ∈ hk') := by rw [tkQ]
theorem lkH_str (hk : List Int) (h : Value → ByteArray) (i : Int) : lkH hk (fun v => .v (.string (h v))) i = cond (hasI hk i) (h (.int .i64 i)) ⟨#[]⟩ := by
  unfold lkH
  simp only [mixS]
  rfl
theorem tkQ_zero (m : Nat) (td : Nat → ByteArray) (b : Int) (hk : List Int) (g : Value → SV) : tkQ m td b hk g 0 td hk := by
  rw [tkQ_def]
  exact ⟨fun _ _ => rfl, fun j hj => absurd hj (Nat.not_lt_zero j), fun _ h => h, fun _ h _ => h⟩
theorem tkQ_step {m : Nat} {td : Nat → ByteArray} {b : Int} {hk : List Int} {g : Value → SV} {k : Nat} {td' : Nat → ByteArray} {hk' : List Int} (h : tkQ m td b hk g k td' hk') : tkQ m td b hk g (k + 1) (upF td' (m + k) (lkH hk' g (b + k))) (delI hk' (b + k)) := by
  rw [tkQ_def] at h ⊢
  obtain ⟨h1, h2, h3, h4⟩ := h
  have hu : ∀ (r : Nat) (y : ByteArray), r ≠ m + k → upF td' (m + k) y r = td' r := fun r y hr => by
    unfold upF
    cases e : Nat.beq r (m + k) with
    | true => exact absurd (Nat.eq_of_beq_eq_true e) hr
    | false => rfl
  have hh : hasI hk' (b + k) = hasI hk (b + k) := by
    rw [Bool.eq_iff_iff, hasI_iff, hasI_iff]
    exact ⟨h3 _, fun h => h4 _ h (.inr (Int.le_refl _))⟩
  refine ⟨fun r hr => (hu r _ (by omega)).trans (h1 r hr), fun j hj => ?_, fun y hy => h3 y (List.mem_of_mem_erase hy), fun i hi hc => ?_⟩
  · by_cases e : j = k
    · subst e
      unfold upF lkH
      rw [Nat.beq_refl, hh]
      rfl
    · exact (hu _ _ (by omega)).trans (h2 j (by omega))
  · unfold delI
    have hne : i ≠ b + k := by omega
    rw [List.mem_erase_of_ne hne]
    exact h4 i hi (by omega)
/-- A text is held under a number. -/
def hgN (f : Bool) (n : Int) (t : ByteArray) (hg : Value → ByteArray) : Value → ByteArray := fun v => cond (f && keq (.int .i64 n) v) t (hg v)
def takeS : Spec := .m fun args blks K => match args with
  | [.ptr 0 0, .v (.string x)] => ∃ (p : PS) (n u : Int) (t : ByteArray), blks = p.tbl true ∧ x = frB n u t ∧ (n < 0 → t.size = 0) ∧
      ob (((decide (-1 ≤ n) && decide (n < 2147483648)) && ((decide (0 ≤ u) && decide (u < 2147483648)) && decide (t.size ≤ 4000))) && ((tkOK p.tk && decide (p.n ≤ 1000000)) && ((decide (p.m ≤ 1000000) && decide (p.bk.length ≤ 900)) && ((decide (0 ≤ p.base) && decide (p.base < 1000000)) && p.bk.all fun y => decide (y < 1000000)))))
      ((n < 0 → ∀ (tk' : List Int) (m : Nat) (os' : Nat → Int) (ot' : Nat → ByteArray) (og' : Nat → Bool), tkOK tk' = true → m ≤ p.n ∧ subR p.n p.os p.ot p.og m os' ot' og' →
          K (.v (.int .i64 0)) (pT true p.room p.sent m os' ot' og' p.m p.td p.owe p.base p.bk p.most tk' p.wd p.we p.hk p.hg) []) ∧
       (0 ≤ n → ∀ (tk' : List Int) (m : Nat) (os' : Nat → Int) (ot' : Nat → ByteArray) (og' : Nat → Bool) (f : Bool) (b' : Int) (bk' hk' : List Int) (td' : Nat → ByteArray) (k : Nat), tkOK tk' = true → m ≤ p.n ∧ subR p.n p.os p.ot p.og m os' ot' og' →
          winP p.base n p.bk f b' bk' ∧ bk'.length ≤ p.bk.length + 1 → b' = p.base + k → tkQ p.m p.td p.base (cond f (insI p.hk n) p.hk) (heldM (hgN f n t p.hg)) k td' hk' →
          K (.v (.int .i64 0)) (pT true p.room p.sent m os' ot' og' (p.m + k) td' true b' bk' p.most tk' p.wd p.we hk' (hgN f n t p.hg)) [5]))
  | _ => False
set_option maxHeartbeats 1000000 in
theorem takeS_ok : SpecOK Tryz.prog 10 takeS := by
  refine m_of mixed (.cons preadS_ok (.cons ackedS_ok (.cons deleteS_ok (.cons baseS_ok (.cons wtakeS_ok .nil))))) Tryz.func10 rfl rfl fun args blks K h => ?_
  split at h
  case h_2 => exact h.elim
  obtain ⟨p, n, u, t, rfl, rfl, hnt, h⟩ := h
  rw [ob_iff, Bool.and_eq_true] at h
  obtain ⟨⟨hb1, hb2⟩, hK1, hK2⟩ := h
  simp only [Bool.and_eq_true, decide_eq_true_eq, List.all_eq_true] at hb2
  obtain ⟨⟨htk, hpn⟩, ⟨hpm, hbl⟩, ⟨hb0, hbb⟩, hball⟩ := hb2
  refine ⟨tkI p, 8, ?_⟩
  rw [take_vf]
  refine ⟨n, u, t, rfl, hnt, ob_mk hb1 ⟨p.wd, p.we, rfl, ob_mk htk (fun n1 tk' htk' => ?_)⟩⟩
  simp only [Bool.and_eq_true, decide_eq_true_eq] at hb1
  obtain ⟨⟨hn0, hn2⟩, ⟨hu0, hu1⟩, ht⟩ := hb1
  (repeat (first | (with_reducible refine ob_true ?_) | refine ob_mk (by first | (with_reducible exact beq_self_eq_true _) | (with_reducible exact nbeq _) | (with_reducible exact nble _) | (with_reducible exact seq_rfl _) | (with_reducible assumption) | (simp only [decide_eq_true_eq, Bool.and_eq_true, beq_iff_eq, Bool.true_and, Bool.and_true, Nat.beq_eq, Nat.ble_eq, true_and, and_true, ge_iff_le, gt_iff_lt]; first | done | omega)) ?_))
  intro m os' ot' og' hmm
  refine bc_mk (fun h1 => ⟨rfl, hK1 (of_decide_eq_true h1) tk' m os' ot' og' htk' hmm⟩) (fun h1 => ?_)
  have hn1 : 0 ≤ n := by have := of_decide_eq_false h1; omega
  refine ⟨rfl, ob_mk ?_ (fun f b' bk' hwin => ?_)⟩
  · rw [decide_eq_true (show p.bk.length ≤ 1000 by omega), decide_eq_true hb0, decide_eq_true hbb]; rfl
  have hbound : p.base ≤ b' ∧ b' < 4000000000 := by
    obtain ⟨w1, w2, w3, w4⟩ := hwin.1
    refine ⟨w1, ?_⟩
    by_cases e : b' = p.base
    · omega
    · rcases w3 (b' - 1) (by omega) (by omega) with h | ⟨_, h⟩
      · have := hball _ h; omega
      · omega
  obtain ⟨hbd0, hbd1⟩ := hbound
  refine bc_mk (fun hf => ?_) (fun hf => ?_)
  · subst hf
    have hin : @Bool.rec (fun _ => List Int) (p.hk ++ [n]) p.hk (hasI p.hk n) = insI p.hk n := by unfold insI; cases hasI p.hk n <;> rfl
    rw [hin]
    refine ⟨tkQ_zero _ _ _ _ _, ?_⟩
    have e0 : p.base + 0 = p.base := Int.add_zero _
    rw [e0]
    (repeat (first | (with_reducible refine ob_true ?_) | refine ob_mk (by first | (with_reducible exact beq_self_eq_true _) | (with_reducible exact nbeq _) | (with_reducible exact nble _) | (with_reducible exact seq_rfl _) | (with_reducible assumption) | (simp only [decide_eq_true_eq, Bool.and_eq_true, beq_iff_eq, Bool.true_and, Bool.and_true, Nat.beq_eq, Nat.ble_eq, true_and, and_true, ge_iff_le, gt_iff_lt]; first | done | omega)) ?_))
    refine ⟨fun _ _ => by trivial, fun _ _ => by trivial, fun _ _ => by trivial, ?_⟩
    (repeat (first | (with_reducible refine ob_true ?_) | refine ob_mk (by first | (with_reducible exact beq_self_eq_true _) | (with_reducible exact nbeq _) | (with_reducible exact nble _) | (with_reducible exact seq_rfl _) | (with_reducible assumption) | (simp only [decide_eq_true_eq, Bool.and_eq_true, beq_iff_eq, Bool.true_and, Bool.and_true, Nat.beq_eq, Nat.ble_eq, true_and, and_true, ge_iff_le, gt_iff_lt]; first | done | omega)) ?_))
    refine ⟨fun _ _ => ⟨rfl, rfl⟩, ?_⟩
    (repeat (first | (with_reducible refine ob_true ?_) | refine ob_mk (by first | (with_reducible exact beq_self_eq_true _) | (with_reducible exact nbeq _) | (with_reducible exact nble _) | (with_reducible exact seq_rfl _) | (with_reducible assumption) | (simp only [decide_eq_true_eq, Bool.and_eq_true, beq_iff_eq, Bool.true_and, Bool.and_true, Nat.beq_eq, Nat.ble_eq, true_and, and_true, ge_iff_le, gt_iff_lt]; first | done | omega)) ?_))
    refine ⟨fun _ _ => rfl, ?_⟩
    (repeat (first | (with_reducible refine ob_true ?_) | refine ob_mk (by first | (with_reducible exact beq_self_eq_true _) | (with_reducible exact nbeq _) | (with_reducible exact nble _) | (with_reducible exact seq_rfl _) | (with_reducible assumption) | (simp only [decide_eq_true_eq, Bool.and_eq_true, beq_iff_eq, Bool.true_and, Bool.and_true, Nat.beq_eq, Nat.ble_eq, true_and, and_true, ge_iff_le, gt_iff_lt]; first | done | omega)) ?_))
    refine ⟨fun _ _ => ⟨rfl, rfl⟩, ?_⟩
    (repeat (first | (with_reducible refine ob_true ?_) | refine ob_mk (by first | (with_reducible exact beq_self_eq_true _) | (with_reducible exact nbeq _) | (with_reducible exact nble _) | (with_reducible exact seq_rfl _) | (with_reducible assumption) | (simp only [decide_eq_true_eq, Bool.and_eq_true, beq_iff_eq, Bool.true_and, Bool.and_true, Nat.beq_eq, Nat.ble_eq, true_and, and_true, ge_iff_le, gt_iff_lt]; first | done | omega)) ?_))
    refine ⟨fun _ _ => ⟨rfl, rfl, rfl, trivial⟩, ?_⟩
    intro k hk x hx
    refine bc_mk (fun h1 => ?_) (fun h1 => ?_)
    · have h1 := of_decide_eq_true h1
      have e2 : IntKind.i64.wrap (p.base + (k : Int) + 1) = p.base + ((k + 1 : Nat) : Int) := by rw [wrap_i64 _ (by omega) (by omega)]; omega
      rw [e2]
      (repeat (first | (with_reducible refine ob_true ?_) | refine ob_mk (by first | (with_reducible exact beq_self_eq_true _) | (with_reducible exact nbeq _) | (with_reducible exact nble _) | (with_reducible exact seq_rfl _) | (with_reducible assumption) | (simp only [decide_eq_true_eq, Bool.and_eq_true, beq_iff_eq, Bool.true_and, Bool.and_true, Nat.beq_eq, Nat.ble_eq, true_and, and_true, ge_iff_le, gt_iff_lt]; first | done | omega)) ?_))
      refine ⟨by omega, ⟨upF x.td (p.m + k) (cond (hasI x.hk (p.base + k)) ((fun v => bif keq (.int .i64 n) v then t else p.hg v) (.int .i64 (p.base + k))) ⟨#[]⟩), delI x.hk (p.base + k)⟩, ?_, ?_⟩
      · have := tkQ_step hx
        rw [lkH_str] at this
        exact this
      · (repeat' (first | (with_reducible exact trivial) | (exact fun _ _ => rfl) | (exact fun _ _ => trivial) | (exact fun _ _ => ⟨rfl, rfl⟩) | (exact fun _ _ => ⟨rfl, rfl, rfl, trivial⟩) | (with_reducible refine ob_true ?_) | (with_reducible apply And.intro) | (with_reducible refine ob_mk ?hob ?_; case hob => exact (by first | (with_reducible exact beq_self_eq_true _) | (with_reducible exact nbeq _) | (with_reducible exact nble _) | (with_reducible exact seq_rfl _) | (with_reducible assumption) | (simp only [decide_eq_true_eq, Bool.and_eq_true, beq_iff_eq, Bool.true_and, Bool.and_true, Nat.beq_eq, Nat.ble_eq, true_and, and_true, ge_iff_le, gt_iff_lt]; first | done | omega)))))
    · have h1 := of_decide_eq_false h1
      refine ⟨rfl, hK2 hn1 tk' m os' ot' og' true b' bk' x.hk x.td k htk' hmm hwin (by omega) ?_⟩
      exact hx
  · subst hf
    refine ⟨tkQ_zero _ _ _ _ _, ?_⟩
    have e0 : p.base + 0 = p.base := Int.add_zero _
    rw [e0]
    (repeat (first | (with_reducible refine ob_true ?_) | refine ob_mk (by first | (with_reducible exact beq_self_eq_true _) | (with_reducible exact nbeq _) | (with_reducible exact nble _) | (with_reducible exact seq_rfl _) | (with_reducible assumption) | (simp only [decide_eq_true_eq, Bool.and_eq_true, beq_iff_eq, Bool.true_and, Bool.and_true, Nat.beq_eq, Nat.ble_eq, true_and, and_true, ge_iff_le, gt_iff_lt]; first | done | omega)) ?_))
    refine ⟨fun _ _ => by trivial, fun _ _ => by trivial, fun _ _ => by trivial, ?_⟩
    (repeat (first | (with_reducible refine ob_true ?_) | refine ob_mk (by first | (with_reducible exact beq_self_eq_true _) | (with_reducible exact nbeq _) | (with_reducible exact nble _) | (with_reducible exact seq_rfl _) | (with_reducible assumption) | (simp only [decide_eq_true_eq, Bool.and_eq_true, beq_iff_eq, Bool.true_and, Bool.and_true, Nat.beq_eq, Nat.ble_eq, true_and, and_true, ge_iff_le, gt_iff_lt]; first | done | omega)) ?_))
    refine ⟨fun _ _ => ⟨rfl, rfl⟩, ?_⟩
    (repeat (first | (with_reducible refine ob_true ?_) | refine ob_mk (by first | (with_reducible exact beq_self_eq_true _) | (with_reducible exact nbeq _) | (with_reducible exact nble _) | (with_reducible exact seq_rfl _) | (with_reducible assumption) | (simp only [decide_eq_true_eq, Bool.and_eq_true, beq_iff_eq, Bool.true_and, Bool.and_true, Nat.beq_eq, Nat.ble_eq, true_and, and_true, ge_iff_le, gt_iff_lt]; first | done | omega)) ?_))
    refine ⟨fun _ _ => rfl, ?_⟩
    (repeat (first | (with_reducible refine ob_true ?_) | refine ob_mk (by first | (with_reducible exact beq_self_eq_true _) | (with_reducible exact nbeq _) | (with_reducible exact nble _) | (with_reducible exact seq_rfl _) | (with_reducible assumption) | (simp only [decide_eq_true_eq, Bool.and_eq_true, beq_iff_eq, Bool.true_and, Bool.and_true, Nat.beq_eq, Nat.ble_eq, true_and, and_true, ge_iff_le, gt_iff_lt]; first | done | omega)) ?_))
    refine ⟨fun _ _ => ⟨rfl, rfl⟩, ?_⟩
    (repeat (first | (with_reducible refine ob_true ?_) | refine ob_mk (by first | (with_reducible exact beq_self_eq_true _) | (with_reducible exact nbeq _) | (with_reducible exact nble _) | (with_reducible exact seq_rfl _) | (with_reducible assumption) | (simp only [decide_eq_true_eq, Bool.and_eq_true, beq_iff_eq, Bool.true_and, Bool.and_true, Nat.beq_eq, Nat.ble_eq, true_and, and_true, ge_iff_le, gt_iff_lt]; first | done | omega)) ?_))
    refine ⟨fun _ _ => ⟨rfl, rfl, rfl, trivial⟩, ?_⟩
    intro k hk x hx
    refine bc_mk (fun h1 => ?_) (fun h1 => ?_)
    · have h1 := of_decide_eq_true h1
      have e2 : IntKind.i64.wrap (p.base + (k : Int) + 1) = p.base + ((k + 1 : Nat) : Int) := by rw [wrap_i64 _ (by omega) (by omega)]; omega
      rw [e2]
      (repeat (first | (with_reducible refine ob_true ?_) | refine ob_mk (by first | (with_reducible exact beq_self_eq_true _) | (with_reducible exact nbeq _) | (with_reducible exact nble _) | (with_reducible exact seq_rfl _) | (with_reducible assumption) | (simp only [decide_eq_true_eq, Bool.and_eq_true, beq_iff_eq, Bool.true_and, Bool.and_true, Nat.beq_eq, Nat.ble_eq, true_and, and_true, ge_iff_le, gt_iff_lt]; first | done | omega)) ?_))
      refine ⟨by omega, ⟨upF x.td (p.m + k) (cond (hasI x.hk (p.base + k)) (p.hg (.int .i64 (p.base + k))) ⟨#[]⟩), delI x.hk (p.base + k)⟩, ?_, ?_⟩
      · have := tkQ_step hx
        rw [lkH_str] at this
        exact this
      · (repeat' (first | (with_reducible exact trivial) | (exact fun _ _ => rfl) | (exact fun _ _ => trivial) | (exact fun _ _ => ⟨rfl, rfl⟩) | (exact fun _ _ => ⟨rfl, rfl, rfl, trivial⟩) | (with_reducible refine ob_true ?_) | (with_reducible apply And.intro) | (with_reducible refine ob_mk ?hob ?_; case hob => exact (by first | (with_reducible exact beq_self_eq_true _) | (with_reducible exact nbeq _) | (with_reducible exact nble _) | (with_reducible exact seq_rfl _) | (with_reducible assumption) | (simp only [decide_eq_true_eq, Bool.and_eq_true, beq_iff_eq, Bool.true_and, Bool.and_true, Nat.beq_eq, Nat.ble_eq, true_and, and_true, ge_iff_le, gt_iff_lt]; first | done | omega)))))
    · have h1 := of_decide_eq_false h1
      refine ⟨rfl, hK2 hn1 tk' m os' ot' og' false b' bk' x.hk x.td k htk' hmm hwin (by omega) ?_⟩
      exact hx

end Go.Proofs.YtpdkchpjekglaaaGreat.Sx
/- pipe: all that were told; texts that are the same. No condition. -/
namespace Go.Proofs.YtpdkchpjekglaaaGreat.Sx
open Go Go.Proofs
set_option maxRecDepth 100000
set_option linter.unusedSimpArgs false
set_option linter.unusedVariables false

theorem clone_vf (m : Nat) (f : Nat → ByteArray) (K : SV → List Blk → List Nat → Prop) : vf Tryz.prog [] (noI) Tryz.f49 [.slc 0 0 m m 1] [.tab true m [.s f]] K =
  (bc (Nat.ble (1 : Nat) m) (ob (true && ((0 : Nat) + m).ble m) (ob true (ob (decide (((0 : Nat) + m) * (16 : Nat) ≤ (140737488355328 : Nat))) (K (SV.slc (1 : Nat) (0 : Nat) ((0 : Nat) + m) ((0 : Nat) + m) (1 : Nat)) [Blk.tab true m [Col.s f], Blk.tab true m [shCol (0 : Nat) (Col.s f)]] [])))) (ob (true && ((0 : Nat) + m).ble m) (ob true (ob (decide (((0 : Nat) + m) * (16 : Nat) ≤ (140737488355328 : Nat))) (K (SV.slc (1 : Nat) (0 : Nat) ((0 : Nat) + m) ((0 : Nat) + m) (1 : Nat)) [Blk.tab true m [Col.s f], Blk.tab true m [shCol (0 : Nat) (Col.s f)]] []))) ∧ K (SV.v (Value.slice none (0 : Nat) (0 : Nat))) [Blk.tab true m [Col.s f]] [])) := by kernel_rfl
def cloneS : Spec := .m fun args blks K => match args, blks with
  | [.slc 0 0 m m' 1], [.tab true m'' [.s f]] => ob ((Nat.beq m' m && Nat.beq m'' m) && decide (m ≤ 1000000)) (K (.slc 1 0 m m 1) [.tab true m [.s f], .tab true m [.s f]] [])
  | _, _ => False
theorem cloneS_ok : SpecOK Tryz.prog 49 cloneS := by
  refine m_le mixed .nil Tryz.func49 rfl rfl fun args blks K h => ?_
  split at h
  case h_2 => exact h.elim
  rename_i m m' m'' f
  rw [ob_iff] at h
  simp only [Bool.and_eq_true, decide_eq_true_eq, Nat.beq_eq] at h
  obtain ⟨⟨⟨h1, h2⟩, hn⟩, hK⟩ := h
  obtain rfl := h1.symm
  obtain rfl := h2.symm
  refine ⟨noI, (clone_vf m f _).mpr ?_⟩
  have hz : 0 + m = m := Nat.zero_add m
  rw [hz]
  have fin : ∃ (s' : SV) (t' : List Blk) (m' : List Nat), SV.le (.slc 1 0 m m 1) s' ∧ tblLe [Blk.tab true m [Col.s f], Blk.tab true m [shCol 0 (Col.s f)]] t' ∧ (s'.lt t'.length && tblLt t'.length t' && Nat.ble 1 t'.length && subB [] m') = true ∧ K s' t' m' :=
    ⟨.slc 1 0 m m 1, [.tab true m [.s f], .tab true m [.s f]], [], ⟨rfl, rfl, rfl, Nat.le_refl _, Nat.le_refl _, rfl⟩, ⟨⟨fun _ => rfl, Nat.le_refl _, fun r _ => rfl, trivial⟩, ⟨fun _ => rfl, Nat.le_refl _, fun r _ => rfl, trivial⟩, trivial⟩, rfl, hK⟩
  refine bc_mk (fun h1 => ?_) (fun h1 => ⟨?_, ?_⟩)
  · (repeat (first | (with_reducible refine ob_true ?_) | refine ob_mk (by first | (with_reducible exact beq_self_eq_true _) | (with_reducible exact nbeq _) | (with_reducible exact nble _) | (with_reducible exact seq_rfl _) | (with_reducible assumption) | (simp only [decide_eq_true_eq, Bool.and_eq_true, beq_iff_eq, Bool.true_and, Bool.and_true, Nat.beq_eq, Nat.ble_eq, true_and, and_true, ge_iff_le, gt_iff_lt]; first | done | omega)) ?_))
    exact fin
  · (repeat (first | (with_reducible refine ob_true ?_) | refine ob_mk (by first | (with_reducible exact beq_self_eq_true _) | (with_reducible exact nbeq _) | (with_reducible exact nble _) | (with_reducible exact seq_rfl _) | (with_reducible assumption) | (simp only [decide_eq_true_eq, Bool.and_eq_true, beq_iff_eq, Bool.true_and, Bool.and_true, Nat.beq_eq, Nat.ble_eq, true_and, and_true, ge_iff_le, gt_iff_lt]; first | done | omega)) ?_))
    exact fin
  · have hm0 : m = 0 := by
      cases m with
      | zero => rfl
      | succ k => rw [Nat.ble_eq.mpr (by omega)] at h1; cases h1
    subst hm0
    exact ⟨.slc 1 0 0 0 1, [.tab true 0 [.s f], .tab true 0 [.s f]], [], ⟨rfl, rfl⟩, ⟨⟨fun _ => rfl, Nat.le_refl _, fun r _ => rfl, trivial⟩, ob_mk rfl trivial, trivial⟩, rfl, hK⟩
def txSh (m r c : Nat) (f g : Nat → ByteArray) (q : Nat) (k : Nat) : St := ⟨[(5, inat k), (1, .slc 1 0 m c 1), (0, .slc 0 0 m m 1)], 26, [.tab false q [.s f], .tab false r [.s g]], [], 2⟩
def txI (m r c : Nat) (f g : Nat → ByteArray) (q : Nat) : Nat → St → LK := fun _ _ => .inv m (txSh m r c f g q)
theorem texts01_vf (m r c q : Nat) (f g : Nat → ByteArray) (K : SV → List Blk → List Nat → Prop) : vf Tryz.prog [] (txI m r c f g q) Tryz.f12 [.slc 0 0 m m 1, .slc 1 0 m c 1] [.tab false q [.s f], .tab false r [.s g]] K =
  (bc ((↑m : Int) != (↑m : Int)) (K (SV.v (Value.bool false)) [Blk.tab false q [Col.s f], Blk.tab false r [Col.s g]] []) (ob true (ob true (ob true (ob (m.beq m) (ob (c.ble c) (ob (m.ble c) (ob true (ob true (ob true (ob (m.beq m) (ob (m.ble m) (ob (m.ble m) (ob true (ob true (ob (q.ble q) ((∀ (r : Nat), r < q → f r = f r) ∧ ob true (ob (r.ble r) ((∀ (r_1 : Nat), r_1 < r → g r_1 = g r_1) ∧ ∀ (k : Nat), k ≤ m → bc (decide ((↑k : Int) < (↑m : Int))) (ob (true && decide ((↑k : Int) < (↑m : Int))) (ob true (ob (decide ((0 : Nat) + (↑k : Int).toNat < q)) (ob (true && decide ((↑k : Int) < (↑m : Int))) (ob true (ob (decide ((0 : Nat) + (↑k : Int).toNat < r)) (bc (!seq (f ((0 : Nat) + (↑k : Int).toNat)) (g ((0 : Nat) + (↑k : Int).toNat))) (K (SV.v (Value.bool false)) [Blk.tab false q [Col.s f], Blk.tab false r [Col.s g]] []) (k < m ∧ ob (IntKind.i64.wrap ((↑k : Int) + (1 : Int)) == (↑(k + (1 : Nat)) : Int)) (ob true (ob true (ob (m.beq m) (ob (c.ble c) (ob (m.ble c) (ob true (ob true (ob true (ob (m.beq m) (ob (m.ble m) (ob (m.ble m) (ob true (ob true (ob (q.ble q) ((∀ (r : Nat), r < q → f r = f r) ∧ ob true (ob (r.ble r) ((∀ (r_1 : Nat), r_1 < r → g r_1 = g r_1) ∧ True))))))))))))))))))))))))) (K (SV.v (Value.bool true)) [Blk.tab false q [Col.s f], Blk.tab false r [Col.s g]] [])))))))))))))))))))) := by kernel_rfl
theorem told_vf (p : PS) (K : SV → List Blk → List Nat → Prop) : vf Tryz.prog [(49, cloneS)] (noI) Tryz.f11 [.ptr 0 0] (PS.tbl true p) K =
  (ob (p.m.beq p.m && p.m.beq p.m && decide (p.m ≤ (1000000 : Nat))) (K (SV.slc (8 : Nat) (0 : Nat) p.m p.m (1 : Nat)) [Blk.cells true [SV.ptr (1 : Nat) (0 : Nat), SV.v (Value.int IntKind.i64 p.room), SV.v (Value.int IntKind.i64 p.sent), SV.slc (2 : Nat) (0 : Nat) p.n p.n (3 : Nat), SV.ptr (3 : Nat) (0 : Nat), SV.mp (4 : Nat), SV.slc (5 : Nat) (0 : Nat) p.m p.m (1 : Nat), SV.v (Value.bool p.owe)], Blk.cells true [SV.v (Value.int IntKind.i64 (64 : Int)), SV.v (Value.int IntKind.i64 p.base), SV.mp (6 : Nat)], Blk.tab true p.n [Col.i IntKind.i64 p.os, Col.s p.ot, Col.b p.og], Blk.cells true [SV.v (Value.int IntKind.i64 p.most), SV.mp (7 : Nat)], Blk.map true true (KS.i IntKind.i64 p.hk) (heldM p.hg), Blk.tab true p.m [Col.s p.td], Blk.map true true (KS.i IntKind.i64 p.bk) allT, Blk.map true true (KS.i IntKind.i64 p.tk) (waits p.wd p.we), Blk.tab true p.m [Col.s p.td]] [])) := by kernel_rfl
def textsEqS : Spec := .q fun args blks K => match args, blks with
  | [.slc 0 0 m m' 1, .slc 1 0 m'' c 1], [.tab false q [.s f], .tab false r [.s g]] => ob ((Nat.beq m' m && Nat.beq m'' m) && ((Nat.ble m c && Nat.ble m q) && (Nat.ble m r && decide (m ≤ 1000000)))) ((∀ j, j < m → f j = g j) ∧ K (.v (.bool true)))
  | _, _ => False
theorem textsEqS_ok : SpecOK Tryz.prog 12 textsEqS := by
  refine q_ro mixed .nil Tryz.func12 rfl rfl fun args blks K h => ?_
  split at h
  case h_2 => exact h.elim
  rename_i m m' m'' c q f r g
  rw [ob_iff] at h
  simp only [Bool.and_eq_true, decide_eq_true_eq, Nat.beq_eq, Nat.ble_eq] at h
  obtain ⟨⟨⟨h1, h2⟩, ⟨hc, hq⟩, hr, hn⟩, hfg, hK⟩ := h
  obtain rfl := h1.symm
  obtain rfl := h2.symm
  refine ⟨_, rfl, hK, rfl, txI m r c f g q, (texts01_vf m r c q f g _).mpr ?_⟩
  refine bc_mk (fun hx => by simp at hx) (fun _ => ?_)
  (repeat (first | (with_reducible refine ob_true ?_) | refine ob_mk (by first | (with_reducible exact beq_self_eq_true _) | (with_reducible exact nbeq _) | (with_reducible exact nble _) | (with_reducible exact seq_rfl _) | (with_reducible assumption) | (simp only [decide_eq_true_eq, Bool.and_eq_true, beq_iff_eq, Bool.true_and, Bool.and_true, Nat.beq_eq, Nat.ble_eq, true_and, and_true, ge_iff_le, gt_iff_lt]; first | done | omega)) ?_))
  refine ⟨fun _ _ => by trivial, ?_⟩
  (repeat (first | (with_reducible refine ob_true ?_) | refine ob_mk (by first | (with_reducible exact beq_self_eq_true _) | (with_reducible exact nbeq _) | (with_reducible exact nble _) | (with_reducible exact seq_rfl _) | (with_reducible assumption) | (simp only [decide_eq_true_eq, Bool.and_eq_true, beq_iff_eq, Bool.true_and, Bool.and_true, Nat.beq_eq, Nat.ble_eq, true_and, and_true, ge_iff_le, gt_iff_lt]; first | done | omega)) ?_))
  refine ⟨fun _ _ => by trivial, ?_⟩
  intro k hk
  refine bc_mk (fun h1 => ?_) (fun h1 => rfl)
  have h1 := of_decide_eq_true h1
  have e1 : 0 + (k : Int).toNat = k := by omega
  have e2 : IntKind.i64.wrap ((k : Int) + 1) = ((k + 1 : Nat) : Int) := by rw [wrap_i64 _ (by omega) (by omega)]; omega
  rw [e1, e2]
  (repeat (first | (with_reducible refine ob_true ?_) | refine ob_mk (by first | (with_reducible exact beq_self_eq_true _) | (with_reducible exact nbeq _) | (with_reducible exact nble _) | (with_reducible exact seq_rfl _) | (with_reducible assumption) | (simp only [decide_eq_true_eq, Bool.and_eq_true, beq_iff_eq, Bool.true_and, Bool.and_true, Nat.beq_eq, Nat.ble_eq, true_and, and_true, ge_iff_le, gt_iff_lt]; first | done | omega)) ?_))
  refine bc_mk (fun hx => ?_) (fun _ => ⟨by omega, by (repeat' (first | (with_reducible exact trivial) | (exact fun _ _ => rfl) | (exact fun _ _ => trivial) | (exact fun _ _ => ⟨rfl, rfl⟩) | (exact fun _ _ => ⟨rfl, rfl, rfl, trivial⟩) | (with_reducible refine ob_true ?_) | (with_reducible apply And.intro) | (with_reducible refine ob_mk ?hob ?_; case hob => exact (by first | (with_reducible exact beq_self_eq_true _) | (with_reducible exact nbeq _) | (with_reducible exact nble _) | (with_reducible exact seq_rfl _) | (with_reducible assumption) | (simp only [decide_eq_true_eq, Bool.and_eq_true, beq_iff_eq, Bool.true_and, Bool.and_true, Nat.beq_eq, Nat.ble_eq, true_and, and_true, ge_iff_le, gt_iff_lt]; first | done | omega)))))⟩)
  rw [hfg k (by omega), seq_rfl] at hx
  cases hx
def toldS : Spec := .m fun args blks K => match args with
  | [.ptr 0 0] => ∃ p : PS, blks = p.tbl true ∧ ob (decide (p.m ≤ 1000000)) (K (.slc 8 0 p.m p.m 1) (p.tbl true ++ [.tab true p.m [.s p.td]]) [])
  | _ => False
theorem toldS_ok : SpecOK Tryz.prog 11 toldS := by
  refine m_of mixed (.cons cloneS_ok .nil) Tryz.func11 rfl rfl fun args blks K h => ?_
  split at h
  case h_2 => exact h.elim
  obtain ⟨p, rfl, h⟩ := h
  rw [ob_iff] at h
  obtain ⟨hm, hK⟩ := h
  refine ⟨noI, 9, ?_⟩
  rw [told_vf]
  refine ob_mk ?_ ⟨rfl, hK⟩
  rw [hm]; simp

end Go.Proofs.YtpdkchpjekglaaaGreat.Sx
