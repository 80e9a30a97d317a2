/- TopBlocks: blocks of requests and their chain, by contract. No condition. -/
import Derived.Test.YtmnenigmkfnciaaGreatDoorSx13
import Derived.Test.YtmnenigmkfnciaaGreatDoorProg
import Derived.Test.YtmnenigmkfnciaaGreatDoorBase
import Derived.Test.YtmnenigmkfnciaaGreatDoorMB
import Derived.Test.YtmnenigmkfnciaaGreatDoorMA
/- wire.Texts of however many texts. No condition. -/
namespace Go.Proofs.YtmnenigmkfnciaaGreatDoor.Sx
open Go Go.Proofs
set_option maxRecDepth 100000
set_option linter.unusedSimpArgs false
set_option linter.unusedVariables false

def listF (f : Nat → ByteArray) (k : Nat) : List ByteArray := (List.range k).map f
theorem listF_def (f : Nat → ByteArray) (k : Nat) : listF f k = (List.range k).map f := by rw [listF]
theorem listF_zero (f : Nat → ByteArray) : listF f 0 = [] := by rw [listF]; rfl
theorem listF_succ (f : Nat → ByteArray) (k : Nat) : listF f (k + 1) = listF f k ++ [f k] := by rw [listF, listF, List.range_succ, List.map_append]; rfl
theorem textsL_app : ∀ (a : List ByteArray) (b : ByteArray), textsL (a ++ [b]) = textsL a ++ bytesL (textB b)
  | [], b => by simp [textsL]
  | x :: a, b => by rw [List.cons_append, textsL, textsL, textsL_app a b, List.append_assoc]
theorem lenT_app : ∀ (a : List ByteArray) (b : ByteArray), lenT (a ++ [b]) = lenT a + (b.size + 4)
  | [], b => by simp [lenT]
  | x :: a, b => by rw [List.cons_append, lenT, lenT, lenT_app a b]; omega
theorem lenT_mono (f : Nat → ByteArray) {k m : Nat} (h : k ≤ m) : lenT (listF f k) ≤ lenT (listF f m) := by
  induction m with
  | zero => have : k = 0 := by omega
            subst this; exact Nat.le_refl _
  | succ m ih =>
    rcases Nat.lt_or_ge m k with h1 | h1
    · have : k = m + 1 := by omega
      subst this; exact Nat.le_refl _
    · rw [listF_succ, lenT_app]
      exact Nat.le_trans (ih h1) (Nat.le_add_right _ _)
 attribute [irreducible] listF
def txSh (f : Nat → ByteArray) (m p : Nat) (k : Nat) : St := ⟨[(8, inat k), (7, inat m), (6, .slc 0 0 m p 1), (3, .slc 1 0 (textsL (listF f k)).length (textsL (listF f k)).length 1)], 19, [.tab false m [.s f], .ints true .u8 (textsL (listF f k))], [], 1⟩
def txI (f : Nat → ByteArray) (m p : Nat) : Nat → St → LK := fun _ _ => .inv m (txSh f m p)
theorem textsn_vf (f : Nat → ByteArray) (m p : Nat) (K : SV → List Blk → List Nat → Prop) : vf Tryz.prog [(67, textS1)] (txI f m p) Tryz.f34 [.slc 0 0 m p 1] [.tab false m [.s f]] K =
  (ob true (ob ((↑m : Int) == (↑m : Int)) (ob true (ob true (ob (m.beq m) (ob (p.ble p) (ob (m.ble p) (ob true (ob ((textsL (listF f (0 : Nat))).length.beq (0 : Nat)) (ob ((textsL (listF f (0 : Nat))).length.beq (0 : Nat)) (ob true (ob (m.ble m) ((∀ (r : Nat), r < m → f r = f r) ∧ ob (textsL (listF f (0 : Nat))).isEmpty True ∧ ∀ (k : Nat), k ≤ m → bc (decide ((↑k : Int) < (↑m : Int))) (ob (true && decide ((↑k : Int) < (↑m : Int))) (ob true (ob (decide ((0 : Nat) + (↑k : Int).toNat < m)) (ob (decide ((f ((0 : Nat) + (↑k : Int).toNat)).size ≤ (9000000000000000000 : Nat))) (ob ((textsL (listF f k)).length.beq ((textsL (listF f k)).length * (1 : Nat))) (ob (decide (((textsL (listF f k)).length + (textB (f ((0 : Nat) + (↑k : Int).toNat))).size) * (1 : Nat) ≤ (140737488355328 : Nat))) (k < m ∧ ob (IntKind.i64.wrap ((↑k : Int) + (1 : Int)) == (↑(k + (1 : Nat)) : Int)) (ob ((↑m : Int) == (↑m : Int)) (ob true (ob true (ob (m.beq m) (ob (p.ble p) (ob (m.ble p) (ob true (ob true (ob true (ob (((textsL (listF f k)).length + (textB (f ((0 : Nat) + (↑k : Int).toNat))).size).beq (textsL (listF f (k + (1 : Nat)))).length) (ob ((textsL (listF f (k + (1 : Nat)))).length.ble ((textsL (listF f k)).length + (textB (f ((0 : Nat) + (↑k : Int).toNat))).size)) (ob ((textsL (listF f (k + (1 : Nat)))).length.ble (textsL (listF f (k + (1 : Nat)))).length) (ob true (ob true (ob (m.ble m) ((∀ (r : Nat), r < m → f r = f r) ∧ ob true (ob (textsL (listF f k) ++ bytesL (textB (f ((0 : Nat) + (↑k : Int).toNat))) == textsL (listF f (k + (1 : Nat)))) True)))))))))))))))))))))))) (ob (decide ((0 : Nat) + (textsL (listF f k)).length ≤ (textsL (listF f k)).length)) (K (SV.v (Value.string (bstr (List.take (textsL (listF f k)).length (List.drop (0 : Nat) (textsL (listF f k))))))) [Blk.tab false m [Col.s f], Blk.ints true IntKind.u8 (textsL (listF f k))] []))))))))))))))) := by kernel_rfl
def textsN : Spec := .q fun args blks K => match args, blks with
  | [.slc 0 0 m p 1], [.tab false m' [.s f]] => ob (Nat.beq m' m && (Nat.ble m p && (decide (m ≤ 1000000) && decide (lenT (listF f m) ≤ 1000000000)))) (K (.v (.string (textsB (listF f m)))))
  | _, _ => False
theorem textsN_ok : SpecOK Tryz.prog 34 textsN := by
  refine q_ro mixed (.cons textS1_ok .nil) Tryz.func34 rfl rfl fun args blks K h => ?_
  split at h
  case h_2 => exact h.elim
  rename_i m p m' f
  rw [ob_iff] at h
  simp only [Bool.and_eq_true, decide_eq_true_eq, Nat.ble_eq, Nat.beq_eq] at h
  obtain ⟨⟨rfl, hp, hm, hl⟩, hK⟩ := h
  refine ⟨_, rfl, hK, rfl, txI f m' p, (textsn_vf f m' p _).mpr ?_⟩
  have g1 : m'.ble p = true := Nat.ble_eq.mpr hp
  have e0 : textsL (listF f 0) = [] := by rw [listF_zero]; rfl
  rw [e0]
  clear hK
  (repeat (first | (with_reducible refine ob_true ?_) | refine ob_mk (by first | (with_reducible exact beq_self_eq_true _) | (with_reducible exact nbeq _) | (with_reducible exact nble _) | (with_reducible exact seq_rfl _) | (with_reducible assumption) | (simp only [decide_eq_true_eq, Bool.and_eq_true, beq_iff_eq, Bool.true_and, Bool.and_true, Nat.beq_eq, Nat.ble_eq, true_and, and_true, ge_iff_le, gt_iff_lt]; first | done | omega)) ?_))
  refine ob_mk rfl (ob_mk rfl (ob_mk rfl (ob_mk (nble _) ⟨fun _ _ => rfl, ob_mk rfl trivial, fun k hk => ?_⟩)))
  have hlen : ∀ k, (textsL (listF f k)).length = lenT (listF f k) := fun k => textsL_len _
  have hk2 := lenT_mono f hk
  refine bc_mk (fun h1 => ?_) (fun h1 => ?_)
  · have h1 := of_decide_eq_true h1
    have hk3 := lenT_mono f (show k + 1 ≤ m' by omega)
    have hs := lenT_app (listF f k) (f k)
    rw [← listF_succ] at hs
    have hw : IntKind.i64.wrap ((k : Int) + 1) = ((k + 1 : Nat) : Int) := by rw [wrap_i64 _ (by omega) (by omega)]; omega
    simp only [Int.toNat_natCast, Nat.zero_add, Nat.mul_one, hlen, textB_size, hw]
    refine ob_mk (by simp only [Bool.true_and, decide_eq_true_eq]; omega) (ob_mk rfl (ob_mk (by simp only [decide_eq_true_eq]; omega) (ob_mk (by simp only [decide_eq_true_eq]; omega) (ob_mk (Nat.beq_refl _) (ob_mk (by simp only [decide_eq_true_eq]; omega) ⟨by omega, ob_mk (beq_self_eq_true _) ?_⟩)))))
    have g2 : (lenT (listF f k) + ((f k).size + 4)).beq (lenT (listF f (k + 1))) = true := by rw [hs]; exact Nat.beq_refl _
    have g3 : (lenT (listF f (k + 1))).ble (lenT (listF f k) + ((f k).size + 4)) = true := by rw [hs]; exact nble _
    have g4 : (textsL (listF f k) ++ bytesL (textB (f k)) == textsL (listF f (k + 1))) = true := by rw [beq_iff_eq, listF_succ, textsL_app]
    clear hs hw hk2 hk3 hlen
    (repeat (first | (with_reducible refine ob_true ?_) | refine ob_mk (by first | (with_reducible exact beq_self_eq_true _) | (with_reducible exact nbeq _) | (with_reducible exact nble _) | (with_reducible exact seq_rfl _) | (with_reducible assumption) | (simp only [decide_eq_true_eq, Bool.and_eq_true, beq_iff_eq, Bool.true_and, Bool.and_true, Nat.beq_eq, Nat.ble_eq, true_and, and_true, ge_iff_le, gt_iff_lt]; first | done | omega)) ?_))
    (repeat' (first | (with_reducible exact trivial) | (exact fun _ _ => rfl) | (exact fun _ _ => trivial) | (exact fun _ _ => ⟨rfl, rfl⟩) | (exact fun _ _ => ⟨rfl, rfl, rfl, trivial⟩) | (with_reducible refine ob_true ?_) | (with_reducible apply And.intro) | (with_reducible refine ob_mk ?hob ?_; case hob => exact (by first | (with_reducible exact beq_self_eq_true _) | (with_reducible exact nbeq _) | (with_reducible exact nble _) | (with_reducible exact seq_rfl _) | (with_reducible assumption) | (simp only [decide_eq_true_eq, Bool.and_eq_true, beq_iff_eq, Bool.true_and, Bool.and_true, Nat.beq_eq, Nat.ble_eq, true_and, and_true, ge_iff_le, gt_iff_lt]; first | done | omega)))))
  · have h1 := of_decide_eq_false h1
    have : k = m' := by omega
    subst this
    refine ob_mk (decide_eq_true (by omega)) ?_
    rw [List.drop_zero, List.take_length, textsB_bstr]

end Go.Proofs.YtmnenigmkfnciaaGreatDoor.Sx
/- block.twice: no two requests alike. No condition. -/
namespace Go.Proofs.YtmnenigmkfnciaaGreatDoor.Sx
open Go Go.Proofs
set_option maxRecDepth 100000
set_option linter.unusedSimpArgs false
set_option linter.unusedVariables false

theorem tw1_vf (c s k e c' s' k' e' : Int) (n b n' b' : ByteArray) (K : SV → List Blk → List Nat → Prop) : vf Tryz.prog [] (noI) Tryz.f96 [.agg (rq c s k e n b), .ptr 0 0] [.cells false (rq c' s' k' e' n' b')] K =
  (bc (c == c') (K (SV.v (Value.bool (bif true then s == s' else false))) [Blk.cells false [SV.v (Value.int IntKind.i64 c'), SV.v (Value.int IntKind.i64 s'), SV.v (Value.int IntKind.i64 k'), SV.v (Value.int IntKind.i64 e'), SV.v (Value.string n'), SV.v (Value.string b')], Blk.cells true [SV.v (Value.int IntKind.i64 c), SV.v (Value.int IntKind.i64 s), SV.v (Value.int IntKind.i64 k), SV.v (Value.int IntKind.i64 e), SV.v (Value.string n), SV.v (Value.string b)]] []) (K (SV.v (Value.bool false)) [Blk.cells false [SV.v (Value.int IntKind.i64 c'), SV.v (Value.int IntKind.i64 s'), SV.v (Value.int IntKind.i64 k'), SV.v (Value.int IntKind.i64 e'), SV.v (Value.string n'), SV.v (Value.string b')], Blk.cells true [SV.v (Value.int IntKind.i64 c), SV.v (Value.int IntKind.i64 s), SV.v (Value.int IntKind.i64 k), SV.v (Value.int IntKind.i64 e), SV.v (Value.string n), SV.v (Value.string b)]] [])) := by kernel_rfl
def tw1S : Spec := .q fun args blks K => match args, blks with
  | [.agg [.v (.int .i64 c), .v (.int .i64 s), .v (.int .i64 k), .v (.int .i64 e), .v (.string n), .v (.string b)], .ptr 0 0], [.cells false [.v (.int .i64 c'), .v (.int .i64 s'), .v (.int .i64 k'), .v (.int .i64 e'), .v (.string n'), .v (.string b')]] => K (.v (.bool (c == c' && s == s')))
  | _, _ => False
theorem tw1S_ok : SpecOK Tryz.prog 96 tw1S := by
  refine q_ro mixed .nil Tryz.func96 rfl rfl fun args blks K h => ?_
  split at h
  case h_2 => exact h.elim
  rename_i c s k e n b c' s' k' e' n' b'
  refine ⟨_, rfl, h, rfl, noI, (tw1_vf c s k e c' s' k' e' n b n' b' _).mpr ?_⟩
  cases hc : (c == c')
  · exact rfl
  · exact rfl
def fnT : SV := .fn (.func 96) [] [.ptr 1 0]
def ixSh (L : RT) (m p : Nat) (c s k e : Int) (n b : ByteArray) (q : Nat) : St := ⟨[(8, inat q), (7, inat m), (1, fnT), (0, .slc 0 0 m p 6)], 19, [.tab false L.n L.cols, .cells false (rq c s k e n b)], [], 2⟩
def ixI (L : RT) (m p : Nat) (c s k e : Int) (n b : ByteArray) : Nat → St → LK := fun _ _ => .inv m (ixSh L m p c s k e n b)
theorem idx_vf (L : RT) (m p : Nat) (c s k e : Int) (n b : ByteArray) (K : SV → List Blk → List Nat → Prop) : vf Tryz.prog [(96, tw1S)] (ixI L m p c s k e n b) Tryz.f136 [.slc 0 0 m p 6, fnT] [.tab false L.n L.cols, .cells false (rq c s k e n b)] K =
  (ob true (ob ((↑m : Int) == (↑m : Int)) (ob true (ob true (ob true (ob true (ob (m.beq m) (ob (p.ble p) (ob (m.ble p) (ob true (ob true (ob (L.n.ble L.n) ((∀ (r : Nat), r < L.n → L.c r = L.c r) ∧ (∀ (r : Nat), r < L.n → L.s r = L.s r) ∧ (∀ (r : Nat), r < L.n → L.k r = L.k r) ∧ (∀ (r : Nat), r < L.n → L.e r = L.e r) ∧ (∀ (r : Nat), r < L.n → L.nm r = L.nm r) ∧ (∀ (r : Nat), r < L.n → L.b r = L.b r) ∧ ob true (ob (c == c) (ob (s == s) (ob (k == k) (ob (e == e) (ob (seq n n) (ob (seq b b) (∀ (k_1 : Nat), k_1 ≤ m → bc (decide ((↑k_1 : Int) < (↑m : Int))) (ob (true && decide ((↑k_1 : Int) < (↑m : Int))) (ob true (ob (decide ((0 : Nat) + (↑k_1 : Int).toNat < L.n)) (bc (L.c ((0 : Nat) + (↑k_1 : Int).toNat) == c && L.s ((0 : Nat) + (↑k_1 : Int).toNat) == s) (K (SV.v (Value.int IntKind.i64 (↑k_1 : Int))) [Blk.tab false L.n [Col.i IntKind.i64 L.c, Col.i IntKind.i64 L.s, Col.i IntKind.i64 L.k, Col.i IntKind.i64 L.e, Col.s L.nm, Col.s L.b], Blk.cells false [SV.v (Value.int IntKind.i64 c), SV.v (Value.int IntKind.i64 s), SV.v (Value.int IntKind.i64 k), SV.v (Value.int IntKind.i64 e), SV.v (Value.string n), SV.v (Value.string b)]] []) (k_1 < m ∧ ob (IntKind.i64.wrap ((↑k_1 : Int) + (1 : Int)) == (↑(k_1 + (1 : Nat)) : Int)) (ob ((↑m : Int) == (↑m : Int)) (ob true (ob true (ob true (ob true (ob (m.beq m) (ob (p.ble p) (ob (m.ble p) (ob true (ob true (ob (L.n.ble L.n) ((∀ (r : Nat), r < L.n → L.c r = L.c r) ∧ (∀ (r : Nat), r < L.n → L.s r = L.s r) ∧ (∀ (r : Nat), r < L.n → L.k r = L.k r) ∧ (∀ (r : Nat), r < L.n → L.e r = L.e r) ∧ (∀ (r : Nat), r < L.n → L.nm r = L.nm r) ∧ (∀ (r : Nat), r < L.n → L.b r = L.b r) ∧ ob true (ob (c == c) (ob (s == s) (ob (k == k) (ob (e == e) (ob (seq n n) (ob (seq b b) True))))))))))))))))))))))) (K (SV.v (Value.int IntKind.i64 (-1 : Int))) [Blk.tab false L.n [Col.i IntKind.i64 L.c, Col.i IntKind.i64 L.s, Col.i IntKind.i64 L.k, Col.i IntKind.i64 L.e, Col.s L.nm, Col.s L.b], Blk.cells false [SV.v (Value.int IntKind.i64 c), SV.v (Value.int IntKind.i64 s), SV.v (Value.int IntKind.i64 k), SV.v (Value.int IntKind.i64 e), SV.v (Value.string n), SV.v (Value.string b)]] []))))))))))))))))))))) := by kernel_rfl
def idxS : Spec := .q fun args blks K => match args, blks with
  | [.slc 0 0 m p 6, .fn (.func 96) [] [.ptr 1 0]], [.tab false N [.i .i64 fc, .i .i64 fs, .i .i64 fk, .i .i64 fe, .s fn, .s fb], .cells false [.v (.int .i64 c), .v (.int .i64 s), .v (.int .i64 k), .v (.int .i64 e), .v (.string n), .v (.string b)]] =>
    (∀ j, j < m → (fc j == c && fs j == s) = false) ∧ ob ((Nat.ble m N && Nat.ble m p) && decide (m ≤ 1000000)) (K (.v (.int .i64 (-1))))
  | _, _ => False
theorem idxS_ok : SpecOK Tryz.prog 136 idxS := by
  refine q_ro mixed (.cons tw1S_ok .nil) Tryz.func136 rfl rfl fun args blks K h => ?_
  split at h
  case h_2 => exact h.elim
  rename_i m p N fc fs fk fe fn fb c s k e n b
  obtain ⟨hno, h⟩ := h
  rw [ob_iff] at h
  simp only [Bool.and_eq_true, decide_eq_true_eq, Nat.ble_eq] at h
  obtain ⟨⟨⟨hN, hp⟩, hm⟩, hK⟩ := h
  refine ⟨_, rfl, hK, rfl, ixI ⟨N, fc, fs, fk, fe, fn, fb⟩ m p c s k e n b, (idx_vf ⟨N, fc, fs, fk, fe, fn, fb⟩ m p c s k e n b _).mpr ?_⟩
  have g1 : m.ble p = true := Nat.ble_eq.mpr hp
  clear hK
  (repeat (first | (with_reducible refine ob_true ?_) | refine ob_mk (by first | (with_reducible exact beq_self_eq_true _) | (with_reducible exact nbeq _) | (with_reducible exact nble _) | (with_reducible exact seq_rfl _) | (with_reducible assumption) | (simp only [decide_eq_true_eq, Bool.and_eq_true, beq_iff_eq, Bool.true_and, Bool.and_true, Nat.beq_eq, Nat.ble_eq, true_and, and_true, ge_iff_le, gt_iff_lt]; first | done | omega)) ?_))
  refine ⟨fun _ _ => rfl, fun _ _ => rfl, fun _ _ => rfl, fun _ _ => rfl, fun _ _ => rfl, fun _ _ => rfl, ?_⟩
  (repeat (first | (with_reducible refine ob_true ?_) | refine ob_mk (by first | (with_reducible exact beq_self_eq_true _) | (with_reducible exact nbeq _) | (with_reducible exact nble _) | (with_reducible exact seq_rfl _) | (with_reducible assumption) | (simp only [decide_eq_true_eq, Bool.and_eq_true, beq_iff_eq, Bool.true_and, Bool.and_true, Nat.beq_eq, Nat.ble_eq, true_and, and_true, ge_iff_le, gt_iff_lt]; first | done | omega)) ?_))
  intro q hq
  refine bc_mk (fun h1 => ?_) (fun h1 => ?_)
  · have h1 := of_decide_eq_true h1
    have hw : IntKind.i64.wrap ((q : Int) + 1) = ((q + 1 : Nat) : Int) := by rw [wrap_i64 _ (by omega) (by omega)]; omega
    simp only [Int.toNat_natCast, Nat.zero_add, hw]
    refine ob_mk (by simp only [Bool.true_and, decide_eq_true_eq]; omega) (ob_mk rfl (ob_mk (decide_eq_true (by omega)) ?_))
    rw [hno q (by omega)]
    refine ⟨by omega, ob_mk (beq_self_eq_true _) ?_⟩
    clear hno hw
    (repeat (first | (with_reducible refine ob_true ?_) | refine ob_mk (by first | (with_reducible exact beq_self_eq_true _) | (with_reducible exact nbeq _) | (with_reducible exact nble _) | (with_reducible exact seq_rfl _) | (with_reducible assumption) | (simp only [decide_eq_true_eq, Bool.and_eq_true, beq_iff_eq, Bool.true_and, Bool.and_true, Nat.beq_eq, Nat.ble_eq, true_and, and_true, ge_iff_le, gt_iff_lt]; first | done | omega)) ?_))
    (repeat' (first | (with_reducible exact trivial) | (exact fun _ _ => rfl) | (exact fun _ _ => trivial) | (exact fun _ _ => ⟨rfl, rfl⟩) | (exact fun _ _ => ⟨rfl, rfl, rfl, trivial⟩) | (with_reducible refine ob_true ?_) | (with_reducible apply And.intro) | (with_reducible refine ob_mk ?hob ?_; case hob => exact (by first | (with_reducible exact beq_self_eq_true _) | (with_reducible exact nbeq _) | (with_reducible exact nble _) | (with_reducible exact seq_rfl _) | (with_reducible assumption) | (simp only [decide_eq_true_eq, Bool.and_eq_true, beq_iff_eq, Bool.true_and, Bool.and_true, Nat.beq_eq, Nat.ble_eq, true_and, and_true, ge_iff_le, gt_iff_lt]; first | done | omega)))))
  · exact rfl
theorem conF_vf (N m p : Nat) (fc fs fk fe : Nat → Int) (fn fb : Nat → ByteArray) (c s k e : Int) (n b : ByteArray) (K : SV → List Blk → List Nat → Prop) : vf Tryz.prog [(136, idxS)] (noI) Tryz.f95 [.slc 0 0 m p 6, fnT] [.tab false N [.i .i64 fc, .i .i64 fs, .i .i64 fk, .i .i64 fe, .s fn, .s fb], .cells false (rq c s k e n b)] K =
  ((∀ (j : Nat), j < m → (fc j == c && fs j == s) = false) ∧ ob (m.ble N && m.ble p && decide (m ≤ (1000000 : Nat))) (K (SV.v (Value.bool false)) [Blk.tab false N [Col.i IntKind.i64 fc, Col.i IntKind.i64 fs, Col.i IntKind.i64 fk, Col.i IntKind.i64 fe, Col.s fn, Col.s fb], Blk.cells false [SV.v (Value.int IntKind.i64 c), SV.v (Value.int IntKind.i64 s), SV.v (Value.int IntKind.i64 k), SV.v (Value.int IntKind.i64 e), SV.v (Value.string n), SV.v (Value.string b)]] [])) := by kernel_rfl
def conS : Spec := .q fun args blks K => match args, blks with
  | [.slc 0 0 m p 6, .fn (.func 96) [] [.ptr 1 0]], [.tab false N [.i .i64 fc, .i .i64 fs, .i .i64 fk, .i .i64 fe, .s fn, .s fb], .cells false [.v (.int .i64 c), .v (.int .i64 s), .v (.int .i64 k), .v (.int .i64 e), .v (.string n), .v (.string b)]] =>
    (∀ j, j < m → (fc j == c && fs j == s) = false) ∧ ob ((Nat.ble m N && Nat.ble m p) && decide (m ≤ 1000000)) (K (.v (.bool false)))
  | _, _ => False
theorem conS_ok : SpecOK Tryz.prog 95 conS := by
  refine q_ro mixed (.cons idxS_ok .nil) Tryz.func95 rfl rfl fun args blks K h => ?_
  split at h
  case h_2 => exact h.elim
  rename_i m p N fc fs fk fe fn fb c s k e n b
  obtain ⟨hno, h⟩ := h
  rw [ob_iff] at h
  exact ⟨_, rfl, h.2, rfl, noI, (conF_vf N m p fc fs fk fe fn fb c s k e n b _).mpr ⟨hno, ob_mk h.1 rfl⟩⟩
def twSh (L : RT) (p : Nat) (q : Nat) : St := ⟨[(7, inat q), (6, inat L.n), (5, .slc 0 0 L.n p 6), (0, .slc 0 0 L.n p 6)], 18, [.tab false L.n L.cols], [], 1⟩
def twI (L : RT) (p : Nat) : Nat → St → LK := fun _ _ => .inv L.n (twSh L p)
theorem twice_vf (L : RT) (p : Nat) (K : SV → List Blk → List Nat → Prop) : vf Tryz.prog [(95, conS)] (twI L p) Tryz.f65 [.slc 0 0 L.n p 6] [.tab false L.n L.cols] K =
  (ob true (ob ((↑L.n : Int) == (↑L.n : Int)) (ob true (ob true (ob (L.n.beq L.n) (ob (p.ble p) (ob (L.n.ble p) (ob true (ob true (ob true (ob (L.n.beq L.n) (ob (p.ble p) (ob (L.n.ble p) (ob true (ob true (ob (L.n.ble L.n) ((∀ (r : Nat), r < L.n → L.c r = L.c r) ∧ (∀ (r : Nat), r < L.n → L.s r = L.s r) ∧ (∀ (r : Nat), r < L.n → L.k r = L.k r) ∧ (∀ (r : Nat), r < L.n → L.e r = L.e r) ∧ (∀ (r : Nat), r < L.n → L.nm r = L.nm r) ∧ (∀ (r : Nat), r < L.n → L.b r = L.b r) ∧ ∀ (k : Nat), k ≤ L.n → bc (decide ((↑k : Int) < (↑L.n : Int))) (ob (true && decide ((↑k : Int) < (↑L.n : Int))) (ob true (ob (decide ((0 : Nat) + (↑k : Int).toNat < L.n)) (ob (true && decide ((↑k : Int) ≤ (↑p : Int))) ((∀ (j : Nat), j < (↑k : Int).toNat → (L.c j == L.c ((0 : Nat) + (↑k : Int).toNat) && L.s j == L.s ((0 : Nat) + (↑k : Int).toNat)) = false) ∧ ob ((↑k : Int).toNat.ble L.n && (↑k : Int).toNat.ble p && decide ((↑k : Int).toNat ≤ (1000000 : Nat))) (k < L.n ∧ ob (IntKind.i64.wrap ((↑k : Int) + (1 : Int)) == (↑(k + (1 : Nat)) : Int)) (ob ((↑L.n : Int) == (↑L.n : Int)) (ob true (ob true (ob (L.n.beq L.n) (ob (p.ble p) (ob (L.n.ble p) (ob true (ob true (ob true (ob (L.n.beq L.n) (ob (p.ble p) (ob (L.n.ble p) (ob true (ob true (ob (L.n.ble L.n) ((∀ (r : Nat), r < L.n → L.c r = L.c r) ∧ (∀ (r : Nat), r < L.n → L.s r = L.s r) ∧ (∀ (r : Nat), r < L.n → L.k r = L.k r) ∧ (∀ (r : Nat), r < L.n → L.e r = L.e r) ∧ (∀ (r : Nat), r < L.n → L.nm r = L.nm r) ∧ (∀ (r : Nat), r < L.n → L.b r = L.b r) ∧ True)))))))))))))))))))))) (K (SV.v (Value.bool false)) [Blk.tab false L.n [Col.i IntKind.i64 L.c, Col.i IntKind.i64 L.s, Col.i IntKind.i64 L.k, Col.i IntKind.i64 L.e, Col.s L.nm, Col.s L.b]] [])))))))))))))))))) := by kernel_rfl
/-- No two of the first so many requests have the same client and number. -/
def apartR (n : Nat) (fc fs : Nat → Int) : Prop := ∀ i, i < n → ∀ j, j < i → (fc j == fc i && fs j == fs i) = false
def twiceS : Spec := .q fun args blks K => match args, blks with
  | [.slc 0 0 m p 6], [.tab false N [.i .i64 fc, .i .i64 fs, .i .i64 fk, .i .i64 fe, .s fn, .s fb]] => apartR m fc fs ∧ ob ((Nat.beq N m && Nat.ble m p) && decide (m ≤ 1000000)) (K (.v (.bool false)))
  | _, _ => False
theorem twiceS_ok : SpecOK Tryz.prog 65 twiceS := by
  refine q_ro mixed (.cons conS_ok .nil) Tryz.func65 rfl rfl fun args blks K h => ?_
  split at h
  case h_2 => exact h.elim
  rename_i m p N fc fs fk fe fn fb
  obtain ⟨hno, h⟩ := h
  rw [ob_iff] at h
  simp only [Bool.and_eq_true, decide_eq_true_eq, Nat.ble_eq, Nat.beq_eq] at h
  obtain ⟨⟨⟨rfl, hp⟩, hm⟩, hK⟩ := h
  refine ⟨_, rfl, hK, rfl, twI ⟨N, fc, fs, fk, fe, fn, fb⟩ p, (twice_vf ⟨N, fc, fs, fk, fe, fn, fb⟩ p _).mpr ?_⟩
  have g1 : N.ble p = true := Nat.ble_eq.mpr hp
  clear hK
  (repeat (first | (with_reducible refine ob_true ?_) | refine ob_mk (by first | (with_reducible exact beq_self_eq_true _) | (with_reducible exact nbeq _) | (with_reducible exact nble _) | (with_reducible exact seq_rfl _) | (with_reducible assumption) | (simp only [decide_eq_true_eq, Bool.and_eq_true, beq_iff_eq, Bool.true_and, Bool.and_true, Nat.beq_eq, Nat.ble_eq, true_and, and_true, ge_iff_le, gt_iff_lt]; first | done | omega)) ?_))
  refine ⟨fun _ _ => rfl, fun _ _ => rfl, fun _ _ => rfl, fun _ _ => rfl, fun _ _ => rfl, fun _ _ => rfl, ?_⟩
  (repeat (first | (with_reducible refine ob_true ?_) | refine ob_mk (by first | (with_reducible exact beq_self_eq_true _) | (with_reducible exact nbeq _) | (with_reducible exact nble _) | (with_reducible exact seq_rfl _) | (with_reducible assumption) | (simp only [decide_eq_true_eq, Bool.and_eq_true, beq_iff_eq, Bool.true_and, Bool.and_true, Nat.beq_eq, Nat.ble_eq, true_and, and_true, ge_iff_le, gt_iff_lt]; first | done | omega)) ?_))
  intro q hq
  dsimp only at hq ⊢
  refine bc_mk (fun h1 => ?_) (fun h1 => ?_)
  · have h1 := of_decide_eq_true h1
    have hw : IntKind.i64.wrap ((q : Int) + 1) = ((q + 1 : Nat) : Int) := by rw [wrap_i64 _ (by omega) (by omega)]; omega
    simp only [Int.toNat_natCast, Nat.zero_add, hw]
    refine ob_mk (by simp only [Bool.true_and, decide_eq_true_eq]; omega) (ob_mk rfl (ob_mk (decide_eq_true (by omega)) (ob_mk (by simp only [Bool.true_and, decide_eq_true_eq]; omega) ⟨hno q (by omega), ob_mk (by simp only [Bool.and_eq_true, decide_eq_true_eq, Nat.ble_eq]; omega) ⟨by omega, ob_mk (beq_self_eq_true _) ?_⟩⟩)))
    clear hno hw
    (repeat (first | (with_reducible refine ob_true ?_) | refine ob_mk (by first | (with_reducible exact beq_self_eq_true _) | (with_reducible exact nbeq _) | (with_reducible exact nble _) | (with_reducible exact seq_rfl _) | (with_reducible assumption) | (simp only [decide_eq_true_eq, Bool.and_eq_true, beq_iff_eq, Bool.true_and, Bool.and_true, Nat.beq_eq, Nat.ble_eq, true_and, and_true, ge_iff_le, gt_iff_lt]; first | done | omega)) ?_))
    (repeat' (first | (with_reducible exact trivial) | (exact fun _ _ => rfl) | (exact fun _ _ => trivial) | (exact fun _ _ => ⟨rfl, rfl⟩) | (exact fun _ _ => ⟨rfl, rfl, rfl, trivial⟩) | (with_reducible refine ob_true ?_) | (with_reducible apply And.intro) | (with_reducible refine ob_mk ?hob ?_; case hob => exact (by first | (with_reducible exact beq_self_eq_true _) | (with_reducible exact nbeq _) | (with_reducible exact nble _) | (with_reducible exact seq_rfl _) | (with_reducible assumption) | (simp only [decide_eq_true_eq, Bool.and_eq_true, beq_iff_eq, Bool.true_and, Bool.and_true, Nat.beq_eq, Nat.ble_eq, true_and, and_true, ge_iff_le, gt_iff_lt]; first | done | omega)))))
  · exact rfl

end Go.Proofs.YtmnenigmkfnciaaGreatDoor.Sx
/- block.Check of requests that may be. No condition. -/
namespace Go.Proofs.YtmnenigmkfnciaaGreatDoor.Sx
open Go Go.Proofs
set_option maxRecDepth 100000
set_option linter.unusedSimpArgs false
set_option linter.unusedVariables false

def pcheckG : Spec := .q fun args blks K => match args, blks with
  | [.agg [.v (.int .i64 c), .v (.int .i64 s), .v (.int .i64 k), .v (.int .i64 e), .v (.string n), .v (.string b)]], [] => ob (reqOK c s k e n b) (K (.v (.int .i64 0)))
  | _, _ => False
theorem pcheckG_ok : SpecOK Tryz.prog 27 pcheckG := weaken pcheckS_ok fun args blks K h => by
  split at h
  case h_2 => exact h.elim
  rw [ob_iff] at h
  obtain ⟨h1, hK⟩ := h
  obtain ⟨_, _, h2⟩ := reqOK_parts h1
  have := cmdOK_size h2
  refine ob_mk (decide_eq_true (by omega)) ?_
  rw [h1]
  exact hK
def ckSh (h : Int) (par : ByteArray) (L : RT) (p : Nat) (q : Nat) : St := ⟨[(33, inat q), (32, inat L.n), (31, .slc 0 0 L.n p 6)], 41, [.tab false L.n L.cols], [], 1⟩
def ckI (h : Int) (par : ByteArray) (L : RT) (p : Nat) : Nat → St → LK := fun _ _ => .inv L.n (ckSh h par L p)
theorem bchk_vf (h : Int) (par : ByteArray) (L : RT) (p : Nat) (K : SV → List Blk → List Nat → Prop) : vf Tryz.prog [(65, twiceS), (27, pcheckG)] (ckI h par L p) Tryz.f31 [.agg [.v (.int .i64 h), .v (.string par), .slc 0 0 L.n p 6]] [.tab false L.n L.cols] K =
  (bc (decide (h < (0 : Int))) (K (SV.v (Value.int IntKind.i64 (1 : Int))) [Blk.tab false L.n [Col.i IntKind.i64 L.c, Col.i IntKind.i64 L.s, Col.i IntKind.i64 L.k, Col.i IntKind.i64 L.e, Col.s L.nm, Col.s L.b], Blk.cells true [SV.v (Value.int IntKind.i64 h), SV.v (Value.string par), SV.slc (0 : Nat) (0 : Nat) L.n p (6 : Nat)]] []) (bc (bif false then true else decide (h > (64 : Int))) (K (SV.v (Value.int IntKind.i64 (1 : Int))) [Blk.tab false L.n [Col.i IntKind.i64 L.c, Col.i IntKind.i64 L.s, Col.i IntKind.i64 L.k, Col.i IntKind.i64 L.e, Col.s L.nm, Col.s L.b], Blk.cells true [SV.v (Value.int IntKind.i64 h), SV.v (Value.string par), SV.slc (0 : Nat) (0 : Nat) L.n p (6 : Nat)]] []) (bc (bif false then true else (↑par.size : Int) != (32 : Int)) (K (SV.v (Value.int IntKind.i64 (1 : Int))) [Blk.tab false L.n [Col.i IntKind.i64 L.c, Col.i IntKind.i64 L.s, Col.i IntKind.i64 L.k, Col.i IntKind.i64 L.e, Col.s L.nm, Col.s L.b], Blk.cells true [SV.v (Value.int IntKind.i64 h), SV.v (Value.string par), SV.slc (0 : Nat) (0 : Nat) L.n p (6 : Nat)]] []) (bc (bif false then true else decide ((↑L.n : Int) > (8 : Int))) (K (SV.v (Value.int IntKind.i64 (1 : Int))) [Blk.tab false L.n [Col.i IntKind.i64 L.c, Col.i IntKind.i64 L.s, Col.i IntKind.i64 L.k, Col.i IntKind.i64 L.e, Col.s L.nm, Col.s L.b], Blk.cells true [SV.v (Value.int IntKind.i64 h), SV.v (Value.string par), SV.slc (0 : Nat) (0 : Nat) L.n p (6 : Nat)]] []) ((∀ (i : Nat), i < L.n → ∀ (j : Nat), j < i → (L.c j == L.c i && L.s j == L.s i) = false) ∧ ob (L.n.beq L.n && L.n.ble p && decide (L.n ≤ (1000000 : Nat))) (ob true (ob ((↑L.n : Int) == (↑L.n : Int)) (ob true (ob true (ob (L.n.beq L.n) (ob (p.ble p) (ob (L.n.ble p) (ob true (ob true (ob (L.n.ble L.n) ((∀ (r : Nat), r < L.n → L.c r = L.c r) ∧ (∀ (r : Nat), r < L.n → L.s r = L.s r) ∧ (∀ (r : Nat), r < L.n → L.k r = L.k r) ∧ (∀ (r : Nat), r < L.n → L.e r = L.e r) ∧ (∀ (r : Nat), r < L.n → L.nm r = L.nm r) ∧ (∀ (r : Nat), r < L.n → L.b r = L.b r) ∧ ∀ (k : Nat), k ≤ L.n → bc (decide ((↑k : Int) < (↑L.n : Int))) (ob (true && decide ((↑k : Int) < (↑L.n : Int))) (ob true (ob (decide ((0 : Nat) + (↑k : Int).toNat < L.n)) (ob (reqOK (L.c ((0 : Nat) + (↑k : Int).toNat)) (L.s ((0 : Nat) + (↑k : Int).toNat)) (L.k ((0 : Nat) + (↑k : Int).toNat)) (L.e ((0 : Nat) + (↑k : Int).toNat)) (L.nm ((0 : Nat) + (↑k : Int).toNat)) (L.b ((0 : Nat) + (↑k : Int).toNat))) (k < L.n ∧ ob (IntKind.i64.wrap ((↑k : Int) + (1 : Int)) == (↑(k + (1 : Nat)) : Int)) (ob ((↑L.n : Int) == (↑L.n : Int)) (ob true (ob true (ob (L.n.beq L.n) (ob (p.ble p) (ob (L.n.ble p) (ob true (ob true (ob (L.n.ble L.n) ((∀ (r : Nat), r < L.n → L.c r = L.c r) ∧ (∀ (r : Nat), r < L.n → L.s r = L.s r) ∧ (∀ (r : Nat), r < L.n → L.k r = L.k r) ∧ (∀ (r : Nat), r < L.n → L.e r = L.e r) ∧ (∀ (r : Nat), r < L.n → L.nm r = L.nm r) ∧ (∀ (r : Nat), r < L.n → L.b r = L.b r) ∧ True))))))))))))))) (K (SV.v (Value.int IntKind.i64 (0 : Int))) [Blk.tab false L.n [Col.i IntKind.i64 L.c, Col.i IntKind.i64 L.s, Col.i IntKind.i64 L.k, Col.i IntKind.i64 L.e, Col.s L.nm, Col.s L.b]] []))))))))))))))))) := by kernel_rfl
def allOKR (n : Nat) (fc fs fk fe : Nat → Int) (fn fb : Nat → ByteArray) : Prop := ∀ i, i < n → reqOK (fc i) (fs i) (fk i) (fe i) (fn i) (fb i) = true
def bcheckG : Spec := .q fun args blks K => match args, blks with
  | [.agg [.v (.int .i64 h), .v (.string par), .slc 0 0 m p 6]], [.tab false N [.i .i64 fc, .i .i64 fs, .i .i64 fk, .i .i64 fe, .s fn, .s fb]] =>
    apartR m fc fs ∧ allOKR m fc fs fk fe fn fb ∧ ob ((Nat.beq N m && Nat.ble m p) && (decide (m ≤ 8) && ((decide (0 ≤ h) && decide (h ≤ 64)) && (par.size == 32)))) (K (.v (.int .i64 0)))
  | _, _ => False
theorem bcheckG_ok : SpecOK Tryz.prog 31 bcheckG := by
  refine q_ro mixed (.cons twiceS_ok (.cons pcheckG_ok .nil)) Tryz.func31 rfl rfl fun args blks K hh => ?_
  split at hh
  case h_2 => exact hh.elim
  rename_i h par m p N fc fs fk fe fn fb
  obtain ⟨hap, hall, hh⟩ := hh
  rw [ob_iff] at hh
  simp only [Bool.and_eq_true, decide_eq_true_eq, Nat.ble_eq, Nat.beq_eq, beq_iff_eq] at hh
  obtain ⟨⟨⟨rfl, hp⟩, hm, ⟨h0, h1⟩, hpar⟩, hK⟩ := hh
  refine ⟨_, rfl, hK, rfl, ckI h par ⟨N, fc, fs, fk, fe, fn, fb⟩ p, (bchk_vf h par ⟨N, fc, fs, fk, fe, fn, fb⟩ p _).mpr ?_⟩
  have g1 : N.ble p = true := Nat.ble_eq.mpr hp
  have g2 : (N.beq N && N.ble p && decide (N ≤ 1000000)) = true := by rw [Nat.beq_refl, g1, decide_eq_true (by omega)]; rfl
  clear hK
  dsimp only
  refine bc_mk (fun hx => absurd (of_decide_eq_true hx) (by omega)) fun _ => bc_mk (fun hx => ?_) fun _ => bc_mk (fun hx => ?_) fun _ => bc_mk (fun hx => ?_) fun _ => ⟨hap, ob_mk g2 ?_⟩
  · rw [cond_false, decide_eq_true_eq] at hx; omega
  · rw [cond_false, hpar] at hx; exact absurd hx (by decide)
  · rw [cond_false, decide_eq_true_eq] at hx; omega
  (repeat (first | (with_reducible refine ob_true ?_) | refine ob_mk (by first | (with_reducible exact beq_self_eq_true _) | (with_reducible exact nbeq _) | (with_reducible exact nble _) | (with_reducible exact seq_rfl _) | (with_reducible assumption) | (simp only [decide_eq_true_eq, Bool.and_eq_true, beq_iff_eq, Bool.true_and, Bool.and_true, Nat.beq_eq, Nat.ble_eq, true_and, and_true, ge_iff_le, gt_iff_lt]; first | done | omega)) ?_))
  refine ⟨fun _ _ => rfl, fun _ _ => rfl, fun _ _ => rfl, fun _ _ => rfl, fun _ _ => rfl, fun _ _ => rfl, ?_⟩
  intro q hq
  refine bc_mk (fun h1 => ?_) (fun h1 => ?_)
  · have h1 := of_decide_eq_true h1
    have hw : IntKind.i64.wrap ((q : Int) + 1) = ((q + 1 : Nat) : Int) := by rw [wrap_i64 _ (by omega) (by omega)]; omega
    simp only [Int.toNat_natCast, Nat.zero_add, hw]
    refine ob_mk (by simp only [Bool.true_and, decide_eq_true_eq]; omega) (ob_mk rfl (ob_mk (decide_eq_true (by omega)) (ob_mk (hall q (by omega)) ⟨by omega, ob_mk (beq_self_eq_true _) ?_⟩)))
    clear hap hall hw
    (repeat (first | (with_reducible refine ob_true ?_) | refine ob_mk (by first | (with_reducible exact beq_self_eq_true _) | (with_reducible exact nbeq _) | (with_reducible exact nble _) | (with_reducible exact seq_rfl _) | (with_reducible assumption) | (simp only [decide_eq_true_eq, Bool.and_eq_true, beq_iff_eq, Bool.true_and, Bool.and_true, Nat.beq_eq, Nat.ble_eq, true_and, and_true, ge_iff_le, gt_iff_lt]; first | done | omega)) ?_))
    (repeat' (first | (with_reducible exact trivial) | (exact fun _ _ => rfl) | (exact fun _ _ => trivial) | (exact fun _ _ => ⟨rfl, rfl⟩) | (exact fun _ _ => ⟨rfl, rfl, rfl, trivial⟩) | (with_reducible refine ob_true ?_) | (with_reducible apply And.intro) | (with_reducible refine ob_mk ?hob ?_; case hob => exact (by first | (with_reducible exact beq_self_eq_true _) | (with_reducible exact nbeq _) | (with_reducible exact nble _) | (with_reducible exact seq_rfl _) | (with_reducible assumption) | (simp only [decide_eq_true_eq, Bool.and_eq_true, beq_iff_eq, Bool.true_and, Bool.and_true, Nat.beq_eq, Nat.ble_eq, true_and, and_true, ge_iff_le, gt_iff_lt]; first | done | omega)))))
  · exact rfl

end Go.Proofs.YtmnenigmkfnciaaGreatDoor.Sx
/- block.Encode of requests that may be. No condition. -/
namespace Go.Proofs.YtmnenigmkfnciaaGreatDoor.Sx
open Go Go.Proofs
set_option maxRecDepth 100000
set_option linter.unusedSimpArgs false
set_option linter.unusedVariables false

def encF (h : Int) (par : ByteArray) (L : RT) (q : Nat) : ByteArray := if q = 0 then byteB h else if q = 1 then par else if (q - 2) % 3 = 0 then byteB (L.c ((q - 2) / 3)) else if (q - 2) % 3 = 1 then fourB (L.s ((q - 2) / 3)) else cmdB (L.k ((q - 2) / 3)) (L.e ((q - 2) / 3)) (L.nm ((q - 2) / 3)) (L.b ((q - 2) / 3))
theorem encF_0 (h : Int) (par : ByteArray) (L : RT) : encF h par L 0 = byteB h := by rw [encF, if_pos rfl]
theorem encF_1 (h : Int) (par : ByteArray) (L : RT) : encF h par L 1 = par := by rw [encF, if_neg (by omega), if_pos rfl]
theorem encF_a (h : Int) (par : ByteArray) (L : RT) (i : Nat) : encF h par L (2 + 3 * i) = byteB (L.c i) := by
  rw [encF, if_neg (by omega), if_neg (by omega), if_pos (by omega), show (2 + 3 * i - 2) / 3 = i by omega]
theorem encF_b (h : Int) (par : ByteArray) (L : RT) (i : Nat) : encF h par L (2 + 3 * i + 1) = fourB (L.s i) := by
  rw [encF, if_neg (by omega), if_neg (by omega), if_neg (by omega), if_pos (by omega), show (2 + 3 * i + 1 - 2) / 3 = i by omega]
theorem encF_c (h : Int) (par : ByteArray) (L : RT) (i : Nat) : encF h par L (2 + 3 * i + 1 + 1) = cmdB (L.k i) (L.e i) (L.nm i) (L.b i) := by
  rw [encF, if_neg (by omega), if_neg (by omega), if_neg (by omega), if_neg (by omega), show (2 + 3 * i + 1 + 1 - 2) / 3 = i by omega]
theorem cmdB_len (k e : Int) (n b : ByteArray) (h : n.size + b.size ≤ 416) : (cmdB k e n b).size ≤ 434 := by
  rw [cmdB_def]
  split
  · rw [textsB_size]; simp only [lenT, byteB_size]; omega
  · rw [bstr_size]; simp
theorem encF_len (h : Int) (par : ByteArray) (L : RT) (hp : par.size = 32) : ∀ k, (∀ i, i < k → (L.nm i).size + (L.b i).size ≤ 416) → lenT (listF (encF h par L) (2 + 3 * k)) ≤ 41 + 451 * k
  | 0, _ => by
    show lenT (listF (encF h par L) 2) ≤ _
    rw [listF_succ, listF_succ, listF_zero, encF_0, encF_1]
    simp only [List.nil_append, List.cons_append, lenT, byteB_size, hp]; omega
  | k + 1, hs => by
    have ih := encF_len h par L hp k fun i hi => hs i (by omega)
    have hc := cmdB_len (L.k k) (L.e k) (L.nm k) (L.b k) (hs k (by omega))
    rw [show 2 + 3 * (k + 1) = 2 + 3 * k + 1 + 1 + 1 by omega, listF_succ, listF_succ, listF_succ, encF_a, encF_b, encF_c, lenT_app, lenT_app, lenT_app, byteB_size, fourB_size]
    omega
 attribute [irreducible] encF
def encB (h : Int) (par : ByteArray) (L : RT) : ByteArray := textsB (listF (encF h par L) (2 + 3 * L.n))
theorem encB_def (h : Int) (par : ByteArray) (L : RT) : encB h par L = textsB (listF (encF h par L) (2 + 3 * L.n)) := by rw [encB]
def enSh (h : Int) (par : ByteArray) (L : RT) (p : Nat) (q : Nat) : St := ⟨[(27, inat q), (26, inat L.n), (25, .slc 0 0 L.n p 6), (5, .slc 3 0 (2 + 3 * q) (2 + 3 * q) 1)], 56, [.tab false L.n L.cols, .dead, .dead, .tab true (2 + 3 * q) [.s (encF h par L)]], [], 1⟩
def enI (h : Int) (par : ByteArray) (L : RT) (p : Nat) : Nat → St → LK := fun _ _ => .inv L.n (enSh h par L p)
theorem enc_vf (h : Int) (par : ByteArray) (L : RT) (p : Nat) (K : SV → List Blk → List Nat → Prop) : vf Tryz.prog [(31, bcheckG), (32, commandS), (33, fourS), (34, textsN)] (enI h par L p) Tryz.f9 [.agg [.v (.int .i64 h), .v (.string par), .slc 0 0 L.n p 6]] [.tab false L.n L.cols] K =
  ((∀ (i : Nat), i < L.n → ∀ (j : Nat), j < i → (L.c j == L.c i && L.s j == L.s i) = false) ∧ (∀ (i : Nat), i < L.n → reqOK (L.c i) (L.s i) (L.k i) (L.e i) (L.nm i) (L.b i) = true) ∧ ob (L.n.beq L.n && L.n.ble p && (decide (L.n ≤ (8 : Nat)) && (decide ((0 : Int) ≤ h) && decide (h ≤ (64 : Int)) && par.size == (32 : Nat)))) (ob true (ob true (ob ((↑L.n : Int) == (↑L.n : Int)) (ob true (ob true (ob (L.n.beq L.n) (ob (p.ble p) (ob (L.n.ble p) (ob true (ob true (ob true (ob true (ob true (ob true (ob true (ob true (ob (L.n.ble L.n) ((∀ (r : Nat), r < L.n → L.c r = L.c r) ∧ (∀ (r : Nat), r < L.n → L.s r = L.s r) ∧ (∀ (r : Nat), r < L.n → L.k r = L.k r) ∧ (∀ (r : Nat), r < L.n → L.e r = L.e r) ∧ (∀ (r : Nat), r < L.n → L.nm r = L.nm r) ∧ (∀ (r : Nat), r < L.n → L.b r = L.b r) ∧ ob true (ob (seq (bstr [IntKind.u8.wrap h]) (encF h par L (0 : Nat))) (ob (seq par (encF h par L (1 : Nat))) (∀ (k : Nat), k ≤ L.n → bc (decide ((↑k : Int) < (↑L.n : Int))) (ob (true && decide ((↑k : Int) < (↑L.n : Int))) (ob true (ob (decide ((0 : Nat) + (↑k : Int).toNat < L.n)) (ob (decide ((L.nm ((0 : Nat) + (↑k : Int).toNat)).size + (L.b ((0 : Nat) + (↑k : Int).toNat)).size ≤ (9223372036854775807 : Nat))) (ob true (ob true (ob ((((2 : Nat) + (3 : Nat) * k) * (1 : Nat)).beq (((2 : Nat) + (3 : Nat) * k) * (1 : Nat))) (ob (decide (((2 : Nat) + (3 : Nat) * k + (3 : Nat)) * (16 : Nat) ≤ (140737488355328 : Nat))) (k < L.n ∧ ob (IntKind.i64.wrap ((↑k : Int) + (1 : Int)) == (↑(k + (1 : Nat)) : Int)) (ob ((↑L.n : Int) == (↑L.n : Int)) (ob true (ob true (ob (L.n.beq L.n) (ob (p.ble p) (ob (L.n.ble p) (ob true (ob true (ob true (ob (((2 : Nat) + (3 : Nat) * k + (3 : Nat)).beq ((2 : Nat) + (3 : Nat) * (k + (1 : Nat)))) (ob (((2 : Nat) + (3 : Nat) * (k + (1 : Nat))).ble ((2 : Nat) + (3 : Nat) * k + (3 : Nat))) (ob (((2 : Nat) + (3 : Nat) * (k + (1 : Nat))).ble ((2 : Nat) + (3 : Nat) * (k + (1 : Nat)))) (ob true (ob true (ob (L.n.ble L.n) ((∀ (r : Nat), r < L.n → L.c r = L.c r) ∧ (∀ (r : Nat), r < L.n → L.s r = L.s r) ∧ (∀ (r : Nat), r < L.n → L.k r = L.k r) ∧ (∀ (r : Nat), r < L.n → L.e r = L.e r) ∧ (∀ (r : Nat), r < L.n → L.nm r = L.nm r) ∧ (∀ (r : Nat), r < L.n → L.b r = L.b r) ∧ ob true (ob (((2 : Nat) + (3 : Nat) * (k + (1 : Nat))).ble ((2 : Nat) + (3 : Nat) * k + (1 : Nat) + (1 : Nat) + (1 : Nat))) ((∀ (r : Nat), r < (2 : Nat) + (3 : Nat) * (k + (1 : Nat)) → upF (upF (upF (encF h par L) ((2 : Nat) + (3 : Nat) * k) (bstr [IntKind.u8.wrap (L.c ((0 : Nat) + (↑k : Int).toNat))])) ((2 : Nat) + (3 : Nat) * k + (1 : Nat)) (fourB (L.s ((0 : Nat) + (↑k : Int).toNat)))) ((2 : Nat) + (3 : Nat) * k + (1 : Nat) + (1 : Nat)) (cmdB (L.k ((0 : Nat) + (↑k : Int).toNat)) (L.e ((0 : Nat) + (↑k : Int).toNat)) (L.nm ((0 : Nat) + (↑k : Int).toNat)) (L.b ((0 : Nat) + (↑k : Int).toNat))) r = encF h par L r) ∧ True))))))))))))))))))))))))))) (ob (((2 : Nat) + (3 : Nat) * k).beq ((2 : Nat) + (3 : Nat) * k) && (((2 : Nat) + (3 : Nat) * k).ble ((2 : Nat) + (3 : Nat) * k) && (decide ((2 : Nat) + (3 : Nat) * k ≤ (1000000 : Nat)) && decide (lenT (listF (encF h par L) ((2 : Nat) + (3 : Nat) * k)) ≤ (1000000000 : Nat))))) (bc (decide ((↑(textsB (listF (encF h par L) ((2 : Nat) + (3 : Nat) * k))).size : Int) > (4096 : Int))) (K (SV.tup [SV.v (Value.string (ByteArray.mk (Array.mk []))), SV.v (Value.int IntKind.i64 (2 : Int))]) [Blk.tab false L.n [Col.i IntKind.i64 L.c, Col.i IntKind.i64 L.s, Col.i IntKind.i64 L.k, Col.i IntKind.i64 L.e, Col.s L.nm, Col.s L.b], Blk.dead, Blk.dead, Blk.tab true ((2 : Nat) + (3 : Nat) * k) [Col.s (encF h par L)]] []) (K (SV.tup [SV.v (Value.string (textsB (listF (encF h par L) ((2 : Nat) + (3 : Nat) * k)))), SV.v (Value.int IntKind.i64 (0 : Int))]) [Blk.tab false L.n [Col.i IntKind.i64 L.c, Col.i IntKind.i64 L.s, Col.i IntKind.i64 L.k, Col.i IntKind.i64 L.e, Col.s L.nm, Col.s L.b], Blk.dead, Blk.dead, Blk.tab true ((2 : Nat) + (3 : Nat) * k) [Col.s (encF h par L)]] []))))))))))))))))))))))))) := by kernel_rfl
/-- The sizes of names and bodies. -/
def smallR (n : Nat) (fn fb : Nat → ByteArray) : Prop := ∀ i, i < n → (fn i).size + (fb i).size ≤ 416
def encS : Spec := .q fun args blks K => match args, blks with
  | [.agg [.v (.int .i64 h), .v (.string par), .slc 0 0 m p 6]], [.tab false N [.i .i64 fc, .i .i64 fs, .i .i64 fk, .i .i64 fe, .s fn, .s fb]] =>
    apartR m fc fs ∧ allOKR m fc fs fk fe fn fb ∧ smallR m fn fb ∧ ob ((Nat.beq N m && Nat.ble m p) && (decide (m ≤ 8) && ((decide (0 ≤ h) && decide (h ≤ 64)) && (par.size == 32)))) (K (.tup [.v (.string (encB h par ⟨N, fc, fs, fk, fe, fn, fb⟩)), .v (.int .i64 0)]))
  | _, _ => False
theorem encS_ok : SpecOK Tryz.prog 9 encS := by
  refine q_ro mixed (.cons bcheckG_ok (.cons commandS_ok (.cons bfourS_ok (.cons textsN_ok .nil)))) Tryz.func9 rfl rfl fun args blks K hh => ?_
  split at hh
  case h_2 => exact hh.elim
  rename_i h par m p N fc fs fk fe fn fb
  obtain ⟨hap, hall, hsm, hh⟩ := hh
  have hh' := hh
  rw [ob_iff] at hh
  simp only [Bool.and_eq_true, decide_eq_true_eq, Nat.ble_eq, Nat.beq_eq, beq_iff_eq] at hh
  obtain ⟨⟨⟨rfl, hp⟩, hm, ⟨h0, h1⟩, hpar⟩, hK⟩ := hh
  refine ⟨_, rfl, hK, rfl, enI h par ⟨N, fc, fs, fk, fe, fn, fb⟩ p, (enc_vf h par ⟨N, fc, fs, fk, fe, fn, fb⟩ p _).mpr ?_⟩
  have g1 : N.ble p = true := Nat.ble_eq.mpr hp
  have hlen := fun k hk => encF_len h par ⟨N, fc, fs, fk, fe, fn, fb⟩ hpar k hk
  clear hK
  refine ⟨hap, hall, ob_mk (ob_iff.1 hh').1 ?_⟩
  clear hh'
  (repeat (first | (with_reducible refine ob_true ?_) | refine ob_mk (by first | (with_reducible exact beq_self_eq_true _) | (with_reducible exact nbeq _) | (with_reducible exact nble _) | (with_reducible exact seq_rfl _) | (with_reducible assumption) | (simp only [decide_eq_true_eq, Bool.and_eq_true, beq_iff_eq, Bool.true_and, Bool.and_true, Nat.beq_eq, Nat.ble_eq, true_and, and_true, ge_iff_le, gt_iff_lt]; first | done | omega)) ?_))
  refine ⟨fun _ _ => rfl, fun _ _ => rfl, fun _ _ => rfl, fun _ _ => rfl, fun _ _ => rfl, fun _ _ => rfl, ?_⟩
  rw [encF_0, encF_1, byteB_def]
  refine ob_mk rfl (ob_mk (seq_rfl _) (ob_mk (seq_rfl _) ?_))
  intro q hq
  dsimp only at hq ⊢
  refine bc_mk (fun h1 => ?_) (fun h1 => ?_)
  · have h1 := of_decide_eq_true h1
    have hw : IntKind.i64.wrap ((q : Int) + 1) = ((q + 1 : Nat) : Int) := by rw [wrap_i64 _ (by omega) (by omega)]; omega
    have hs := hsm q (by omega)
    simp only [Int.toNat_natCast, Nat.zero_add, hw]
    refine ob_mk (by simp only [Bool.true_and, decide_eq_true_eq]; omega) (ob_mk rfl (ob_mk (decide_eq_true (by omega)) (ob_mk (decide_eq_true (by omega)) (ob_mk rfl (ob_mk rfl (ob_mk (Nat.beq_refl _) (ob_mk (decide_eq_true (by omega)) ⟨by omega, ob_mk (beq_self_eq_true _) ?_⟩)))))))
    have f1 : (2 + 3 * q + 3).beq (2 + 3 * (q + 1)) = true := by rw [show 2 + 3 * (q + 1) = 2 + 3 * q + 3 by omega]; exact Nat.beq_refl _
    have f2 : (2 + 3 * (q + 1)).ble (2 + 3 * q + 3) = true := by rw [show 2 + 3 * (q + 1) = 2 + 3 * q + 3 by omega]; exact nble _
    have f3 : (2 + 3 * (q + 1)).ble (2 + 3 * q + 1 + 1 + 1) = true := f2
    clear hap hall hsm hlen hw hs
    (repeat (first | (with_reducible refine ob_true ?_) | refine ob_mk (by first | (with_reducible exact beq_self_eq_true _) | (with_reducible exact nbeq _) | (with_reducible exact nble _) | (with_reducible exact seq_rfl _) | (with_reducible assumption) | (simp only [decide_eq_true_eq, Bool.and_eq_true, beq_iff_eq, Bool.true_and, Bool.and_true, Nat.beq_eq, Nat.ble_eq, true_and, and_true, ge_iff_le, gt_iff_lt]; first | done | omega)) ?_))
    refine ⟨fun _ _ => trivial, fun _ _ => trivial, fun _ _ => trivial, fun _ _ => trivial, fun _ _ => trivial, fun _ _ => trivial, ob_mk rfl (ob_mk f3 ⟨fun r hr => ?_, trivial⟩)⟩
    rw [← byteB_def]
    unfold upF
    by_cases e3 : r = 2 + 3 * q + 1 + 1
    · subst e3; rw [Nat.beq_refl, cond_true, encF_c]
    rw [beq_false e3, cond_false]
    by_cases e2 : r = 2 + 3 * q + 1
    · subst e2; rw [Nat.beq_refl, cond_true, encF_b]
    rw [beq_false e2, cond_false]
    by_cases e1 : r = 2 + 3 * q
    · subst e1; rw [Nat.beq_refl, cond_true, encF_a]
    rw [beq_false e1, cond_false]
  · have h1 := of_decide_eq_false h1
    have : q = N := by omega
    subst this
    have hl := hlen q hsm
    refine ob_mk (by rw [Nat.beq_refl, nble, decide_eq_true (show 2 + 3 * q ≤ 1000000 by omega), decide_eq_true (Nat.le_trans hl (by omega))]; rfl) (bc_mk (fun hx => ?_) fun _ => ?_)
    · have hx := of_decide_eq_true hx
      rw [textsB_size] at hx
      have := Nat.le_trans hl (show 41 + 451 * q ≤ 3649 by omega)
      omega
    · rw [encB_def]

end Go.Proofs.YtmnenigmkfnciaaGreatDoor.Sx
/- block.request of three texts. No condition. -/
namespace Go.Proofs.YtmnenigmkfnciaaGreatDoor.Sx
open Go Go.Proofs
set_option maxRecDepth 100000
set_option linter.unusedSimpArgs false
set_option linter.unusedVariables false

def nmB (x : ByteArray) : Nat → Int
  | 0 => 0
  | k + 1 => ior IntKind.i64 (ishl IntKind.i64 (nmB x k) 8) (IntKind.i64.wrap ((bytesL x).getD k 0))
def rqSh (N o : Nat) (F : Nat → ByteArray) (y : ByteArray) (k : Nat) : St := ⟨[(27, inat k), (4, .v (.int .i64 (nmB y k))), (26, .v (.int .i64 y.size)), (25, .slc 2 0 y.size y.size 1), (2, .ptr 1 0), (0, .slc 0 o 3 3 1)], 54,
  [.tab false N [.s F], .cells true [.v (.int .i64 0), .v (.int .i64 0), .v (.int .i64 0), .v (.int .i64 0), .v (.string ⟨#[]⟩), .v (.string ⟨#[]⟩)], .ints true .u8 (bytesL y)], [], 1⟩
def rqI (N o : Nat) (F : Nat → ByteArray) (y : ByteArray) : Nat → St → LK := fun _ _ => .inv 4 (rqSh N o F y)
theorem request_vf (N o : Nat) (F : Nat → ByteArray) (y : ByteArray) (K : SV → List Blk → List Nat → Prop) : vf Tryz.prog [(139, rcmdS)] (rqI N o F y) Tryz.f99 [.slc 0 o 3 3 1] [.tab false N [.s F]] K =
  (ob true (ob ((o % (1 : Nat)).beq (0 : Nat)) (ob (decide (o / (1 : Nat) + (0 : Nat) < N)) (bc ((↑(F (o / (1 : Nat) + (0 : Nat))).size : Int) != (1 : Int)) (K (SV.tup [SV.agg [SV.v (Value.int IntKind.i64 (0 : Int)), SV.v (Value.int IntKind.i64 (0 : Int)), SV.v (Value.int IntKind.i64 (0 : Int)), SV.v (Value.int IntKind.i64 (0 : Int)), SV.v (Value.string (ByteArray.mk (Array.mk []))), SV.v (Value.string (ByteArray.mk (Array.mk [])))], SV.v (Value.bool false)]) [Blk.tab false N [Col.s F], Blk.cells true [SV.v (Value.int IntKind.i64 (0 : Int)), SV.v (Value.int IntKind.i64 (0 : Int)), SV.v (Value.int IntKind.i64 (0 : Int)), SV.v (Value.int IntKind.i64 (0 : Int)), SV.v (Value.string (ByteArray.mk (Array.mk []))), SV.v (Value.string (ByteArray.mk (Array.mk [])))]] []) (ob true (ob ((o % (1 : Nat)).beq (0 : Nat)) (ob (decide (o / (1 : Nat) + (1 : Nat) < N)) (bc (bif false then true else (↑(F (o / (1 : Nat) + (1 : Nat))).size : Int) != (4 : Int)) (K (SV.tup [SV.agg [SV.v (Value.int IntKind.i64 (0 : Int)), SV.v (Value.int IntKind.i64 (0 : Int)), SV.v (Value.int IntKind.i64 (0 : Int)), SV.v (Value.int IntKind.i64 (0 : Int)), SV.v (Value.string (ByteArray.mk (Array.mk []))), SV.v (Value.string (ByteArray.mk (Array.mk [])))], SV.v (Value.bool false)]) [Blk.tab false N [Col.s F], Blk.cells true [SV.v (Value.int IntKind.i64 (0 : Int)), SV.v (Value.int IntKind.i64 (0 : Int)), SV.v (Value.int IntKind.i64 (0 : Int)), SV.v (Value.int IntKind.i64 (0 : Int)), SV.v (Value.string (ByteArray.mk (Array.mk []))), SV.v (Value.string (ByteArray.mk (Array.mk [])))]] []) (ob true (ob ((o % (1 : Nat)).beq (0 : Nat)) (ob (decide (o / (1 : Nat) + (1 : Nat) < N)) (ob true (ob ((0 : Int) == nmB y (0 : Nat)) (ob ((↑(F (o / (1 : Nat) + (1 : Nat))).size : Int) == (↑y.size : Int)) (ob true (ob true (ob ((F (o / (1 : Nat) + (1 : Nat))).size.beq y.size) (ob (y.size.ble (F (o / (1 : Nat) + (1 : Nat))).size) (ob (y.size.ble y.size) (ob true (ob true (ob true (ob true (ob (o.beq o) (ob true (ob true (ob true (ob true (ob true (ob (N.ble N) ((∀ (r : Nat), r < N → F r = F r) ∧ ob true (ob true (ob true (ob true (ob true (ob true (ob true (ob true (ob (bytesL (F (o / (1 : Nat) + (1 : Nat))) == bytesL y) (∀ (k : Nat), k ≤ (4 : Nat) → bc (decide ((↑k : Int) < (↑y.size : Int))) (ob (true && decide ((↑k : Int) < (↑y.size : Int))) (ob (decide ((0 : Nat) + (↑k : Int).toNat * (1 : Nat) + (0 : Nat) < (bytesL y).length)) (ob true (k < (4 : Nat) ∧ ob (IntKind.i64.wrap ((↑k : Int) + (1 : Int)) == (↑(k + (1 : Nat)) : Int)) (ob (ior IntKind.i64 (ishl IntKind.i64 (nmB y k) (8 : Int)) (IntKind.i64.wrap ((bytesL y).getD ((0 : Nat) + (↑k : Int).toNat * (1 : Nat) + (0 : Nat)) (0 : Int))) == nmB y (k + (1 : Nat))) (ob ((↑y.size : Int) == (↑y.size : Int)) (ob true (ob true (ob (y.size.beq y.size) (ob (y.size.ble y.size) (ob (y.size.ble y.size) (ob true (ob true (ob true (ob true (ob (o.beq o) (ob true (ob true (ob true (ob true (ob true (ob (N.ble N) ((∀ (r : Nat), r < N → F r = F r) ∧ ob true (ob true (ob true (ob true (ob true (ob true (ob true (ob true (ob (bytesL y == bytesL y) True))))))))))))))))))))))))))))))) (ob true (ob ((o % (1 : Nat)).beq (0 : Nat)) (ob (decide (o / (1 : Nat) + (2 : Nat) < N)) (∃ (k_1 : Int), ∃ (e : Int), ∃ (n : ByteArray), ∃ (b : ByteArray), F (o / (1 : Nat) + (2 : Nat)) = textsB [byteB k_1, byteB e, n, b] ∧ cmdOK k_1 e n b = true ∧ ob true (ob ((o % (1 : Nat)).beq (0 : Nat)) (ob (decide (o / (1 : Nat) + (0 : Nat) < N)) (ob (true && decide ((0 : Int) < (↑(F (o / (1 : Nat) + (0 : Nat))).size : Int))) (K (SV.tup [SV.agg [SV.v (Value.int IntKind.i64 (IntKind.i64.wrap (bt (F (o / (1 : Nat) + (0 : Nat))) (0 : Int)))), SV.v (Value.int IntKind.i64 (nmB y k)), SV.v (Value.int IntKind.i64 k_1), SV.v (Value.int IntKind.i64 e), SV.v (Value.string n), SV.v (Value.string b)], SV.v (Value.bool true)]) [Blk.tab false N [Col.s F], Blk.cells true [SV.v (Value.int IntKind.i64 (IntKind.i64.wrap (bt (F (o / (1 : Nat) + (0 : Nat))) (0 : Int)))), SV.v (Value.int IntKind.i64 (nmB y k)), SV.v (Value.int IntKind.i64 k_1), SV.v (Value.int IntKind.i64 e), SV.v (Value.string n), SV.v (Value.string b)], Blk.ints true IntKind.u8 (bytesL y), Blk.cells true [SV.v (Value.int IntKind.i64 k_1), SV.v (Value.int IntKind.i64 e), SV.v (Value.string n), SV.v (Value.string b)]] [])))))))))))))))))))))))))))))))))))))))))))))))) := by kernel_rfl
theorem nmB_zero (x : ByteArray) : nmB x 0 = 0 := by rw [nmB]
theorem nmB_succ (x : ByteArray) (k : Nat) : nmB x (k + 1) = ior IntKind.i64 (ishl IntKind.i64 (nmB x k) 8) (IntKind.i64.wrap ((bytesL x).getD k 0)) := by rw [nmB]
theorem step8 (a b : Nat) (ha : a < 16777216) (hb : b < 256) : ior IntKind.i64 (ishl IntKind.i64 (a : Int) 8) (IntKind.i64.wrap (b : Int)) = ((a * 256 + b : Nat) : Int) := by
  have e : ishl IntKind.i64 (a : Int) 8 = (a : Int) * 2 ^ 8 := ishl_i64 a 8 (by omega) (by omega)
  rw [wrap_i64 _ (by omega) (by omega), e, ior_i64 a b 8 (by omega) (by omega), show (2 : Int) ^ 8 = 256 by decide]
  omega
theorem nmB_four (n : Nat) (h : n < 4294967296) : nmB (fourB n) 4 = n := by
  have g : ∀ (i : Nat) (v : Int), [((n / 16777216 % 256 : Nat) : Int), ((n / 65536 % 256 : Nat) : Int), ((n / 256 % 256 : Nat) : Int), ((n % 256 : Nat) : Int)].getD i 0 = v → (bytesL (fourB n)).getD i 0 = v := fun i v hv => by rw [fourB_bytes]; exact hv
  have s1 : nmB (fourB n) 1 = ((n / 16777216 % 256 : Nat) : Int) := by
    rw [nmB_succ, nmB_zero, g 0 ((n / 16777216 % 256 : Nat) : Int) rfl]
    have := step8 0 (n / 16777216 % 256) (by omega) (Nat.mod_lt _ (by omega))
    rw [Nat.zero_mul, Nat.zero_add] at this
    exact this
  have s2 : nmB (fourB n) 2 = ((n / 65536 : Nat) : Int) := by
    rw [nmB_succ, s1, g 1 ((n / 65536 % 256 : Nat) : Int) rfl, step8 (n / 16777216 % 256) (n / 65536 % 256) (by omega) (Nat.mod_lt _ (by omega))]
    omega
  have s3 : nmB (fourB n) 3 = ((n / 256 : Nat) : Int) := by
    rw [nmB_succ, s2, g 2 ((n / 256 % 256 : Nat) : Int) rfl, step8 (n / 65536) (n / 256 % 256) (by omega) (Nat.mod_lt _ (by omega))]
    omega
  rw [nmB_succ, s3, g 3 ((n % 256 : Nat) : Int) rfl, step8 (n / 256) (n % 256) (by omega) (Nat.mod_lt _ (by omega))]
  omega
theorem bt_byteB {n : Int} (h0 : 0 ≤ n) (h1 : n < 256) : IntKind.i64.wrap (bt (byteB n) 0) = n := by
  have hb : bt (byteB n) 0 = n := by
    refine (bt_bytesL _ 0).trans ?_
    rw [byteB_def, wrap_u8, bytesL_bstr (by intro x hx; simp only [List.mem_singleton] at hx; omega)]
    show n % 256 = n
    omega
  rw [hb, wrap_i64 _ (by omega) (by omega)]
def requestG : Spec := .q fun args blks K => match args, blks with
  | [.slc 0 o 3 3 1], [.tab false N [.s F]] => ∃ (c s k e : Int) (n b : ByteArray), F o = byteB c ∧ F (o + 1) = fourB s ∧ F (o + 2) = cmdB k e n b ∧ o + 3 ≤ N ∧ reqOK c s k e n b = true ∧ K (.tup [.agg [.v (.int .i64 c), .v (.int .i64 s), .v (.int .i64 k), .v (.int .i64 e), .v (.string n), .v (.string b)], .v (.bool true)])
  | _, _ => False
theorem requestG_ok : SpecOK Tryz.prog 99 requestG := by
  refine q_ro mixed (.cons rcmdS_ok .nil) Tryz.func99 rfl rfl fun args blks K h => ?_
  split at h
  case h_2 => exact h.elim
  rename_i o N F
  obtain ⟨c, s, k, e, n, b, hF0, hF1, hF2, hN, hok, hK⟩ := h
  rw [reqOK_def] at hok
  simp only [Bool.and_eq_true, decide_eq_true_eq] at hok
  obtain ⟨⟨hc0, hc1⟩, ⟨hs0, hs1⟩, hcmd⟩ := hok
  obtain ⟨m, rfl⟩ := Int.eq_ofNat_of_zero_le hs0
  refine ⟨_, rfl, hK, rfl, rqI N o F (fourB m), ?_⟩
  rw [request_vf]
  have h4 := nmB_four m (by omega)
  have d0 : decide (o < N) = true := decide_eq_true (by omega)
  have d1 : decide (o + 1 < N) = true := decide_eq_true (by omega)
  have d2 : decide (o + 2 < N) = true := decide_eq_true (by omega)
  simp only [Nat.mod_one, Nat.div_one, Nat.add_zero, hF0, hF1, hF2, d0, d1, d2, byteB_size, fourB_size, nmB_zero, ob_t, cond_false, bytesL_len, bt_byteB hc0 (show c < 256 by omega), true_and, implies_true, beq_self_eq_true, Nat.beq_refl, Nat.mul_one, Nat.zero_add, Int.toNat_natCast]
  refine ob_mk (nble N) (ob_mk (nble 4) ?_)
  refine fun q hq => bc_mk (fun h1 => ?_) (fun h1 => ?_)
  · have h1 : (q : Int) < 4 := of_decide_eq_true h1
    have h1' : (true && decide ((q : Int) < ((4 : Nat) : Int))) = true := by rw [Bool.true_and]; exact decide_eq_true h1
    refine ob_mk h1' (ob_mk (decide_eq_true (by omega)) ⟨by omega, ob_mk ?_ (ob_mk ?_ (ob_mk rfl (ob_mk rfl (ob_mk (nble _) trivial))))⟩)
    · rw [wrap_i64 _ (by omega) (by omega)]; simp
    · rw [nmB_succ]; exact beq_self_eq_true _
  · have h1 : ¬ (q : Int) < 4 := of_decide_eq_false h1
    have : q = 4 := by omega
    subst this
    refine ⟨k, e, n, b, by rw [cmdB_def, hcmd]; rfl, hcmd, ob_mk rfl ?_⟩
    rw [h4]

end Go.Proofs.YtmnenigmkfnciaaGreatDoor.Sx
/- block.read of a block's texts. No condition. -/
namespace Go.Proofs.YtmnenigmkfnciaaGreatDoor.Sx
open Go Go.Proofs
set_option maxRecDepth 100000
set_option linter.unusedSimpArgs false
set_option linter.unusedVariables false

def requestH : Spec := .q fun args blks K => match args, blks with
  | [.slc 0 o m m' 1], [.tab false N [.s F]] => ob (Nat.beq m 3 && Nat.beq m' 3) (∃ (c s k e : Int) (n b : ByteArray), F o = byteB c ∧ F (o + 1) = fourB s ∧ F (o + 2) = cmdB k e n b ∧ o + 3 ≤ N ∧ reqOK c s k e n b = true ∧ K (.tup [.agg [.v (.int .i64 c), .v (.int .i64 s), .v (.int .i64 k), .v (.int .i64 e), .v (.string n), .v (.string b)], .v (.bool true)]))
  | _, _ => False
theorem requestH_ok : SpecOK Tryz.prog 99 requestH := weaken requestG_ok fun args blks K h => by
  split at h
  case h_2 => exact h.elim
  rename_i o m m' N F
  rw [ob_iff] at h
  simp only [Bool.and_eq_true, Nat.beq_eq] at h
  obtain ⟨⟨rfl, rfl⟩, h⟩ := h
  exact h
def at3 (q : Nat) : Int := 2 + 3 * (q : Int)
def rdbSh (h : Int) (par : ByteArray) (L : RT) (N : Nat) (F : Nat → ByteArray) (q : Nat) : St := ⟨[(5, .v (.int .i64 (at3 q))), (4, .ptr 2 0), (2, .ptr 1 0), (0, .slc 0 0 N N 1)], 65,
  [.tab true N [.s F], .cells true [.v (.int .i64 0), .v (.string ⟨#[]⟩), .v (.slice none 0 0)], .cells true [.v (.int .i64 h), .v (.string par), .slc 3 0 q q 6], .tab true q L.cols], [], 1⟩
def rdbI (h : Int) (par : ByteArray) (L : RT) (N : Nat) (F : Nat → ByteArray) : Nat → St → LK := fun _ _ => .inv L.n (rdbSh h par L N F)
theorem bread_vf (h : Int) (par : ByteArray) (L : RT) (N : Nat) (F : Nat → ByteArray) (K : SV → List Blk → List Nat → Prop) : vf Tryz.prog [(99, requestH), (31, bcheckG)] (rdbI h par L N F) Tryz.f72 [.slc 0 0 N N 1] [.tab true N [.s F]] K =
  (bc (decide ((↑N : Int) < (2 : Int))) (K (SV.tup [SV.agg [SV.v (Value.int IntKind.i64 (0 : Int)), SV.v (Value.string (ByteArray.mk (Array.mk []))), SV.v (Value.slice none (0 : Nat) (0 : Nat))], SV.v (Value.bool false)]) [Blk.tab true N [Col.s F], Blk.cells true [SV.v (Value.int IntKind.i64 (0 : Int)), SV.v (Value.string (ByteArray.mk (Array.mk []))), SV.v (Value.slice none (0 : Nat) (0 : Nat))]] []) (ob true (bc (bif false then true else (IntKind.i64.wrap ((↑N : Int) - (2 : Int))).tmod (3 : Int) != (0 : Int)) (K (SV.tup [SV.agg [SV.v (Value.int IntKind.i64 (0 : Int)), SV.v (Value.string (ByteArray.mk (Array.mk []))), SV.v (Value.slice none (0 : Nat) (0 : Nat))], SV.v (Value.bool false)]) [Blk.tab true N [Col.s F], Blk.cells true [SV.v (Value.int IntKind.i64 (0 : Int)), SV.v (Value.string (ByteArray.mk (Array.mk []))), SV.v (Value.slice none (0 : Nat) (0 : Nat))]] []) (ob (true && decide ((0 : Int) < (↑N : Int))) (ob true (ob (decide ((0 : Nat) < N)) (bc (bif false then true else (↑(F (0 : Nat)).size : Int) != (1 : Int)) (K (SV.tup [SV.agg [SV.v (Value.int IntKind.i64 (0 : Int)), SV.v (Value.string (ByteArray.mk (Array.mk []))), SV.v (Value.slice none (0 : Nat) (0 : Nat))], SV.v (Value.bool false)]) [Blk.tab true N [Col.s F], Blk.cells true [SV.v (Value.int IntKind.i64 (0 : Int)), SV.v (Value.string (ByteArray.mk (Array.mk []))), SV.v (Value.slice none (0 : Nat) (0 : Nat))]] []) (ob (true && decide ((0 : Int) < (↑N : Int))) (ob (true && decide ((1 : Int) < (↑N : Int))) (ob true (ob (decide ((0 : Nat) < N)) (ob (true && decide ((0 : Int) < (↑(F (0 : Nat)).size : Int))) (ob true (ob (decide ((1 : Nat) < N)) (ob ((2 : Int) == at3 (0 : Nat)) (ob true (ob true (ob true (ob true (ob true (ob true (ob (N.beq N) (ob (N.ble N) (ob (N.ble N) (ob true (ob true (ob (N.ble N) ((∀ (r : Nat), r < N → F r = F r) ∧ ob true (ob true (ob true (ob true (ob (IntKind.i64.wrap (bt (F (0 : Nat)) (0 : Int)) == h) (ob (seq (F (1 : Nat)) par) (ob true (ob true (ob true True ∧ ∀ (k : Nat), k ≤ L.n → bc (decide (at3 k < (↑N : Int))) (ob (decide ((0 : Int) ≤ at3 k) && decide (at3 k ≤ IntKind.i64.wrap (at3 k + (3 : Int))) && decide (IntKind.i64.wrap (at3 k + (3 : Int)) ≤ IntKind.i64.wrap (at3 k + (3 : Int))) && decide (IntKind.i64.wrap (at3 k + (3 : Int)) ≤ (↑N : Int))) (ob (((IntKind.i64.wrap (at3 k + (3 : Int))).toNat - (at3 k).toNat).beq (3 : Nat) && ((IntKind.i64.wrap (at3 k + (3 : Int))).toNat - (at3 k).toNat).beq (3 : Nat)) (∃ (c : Int), ∃ (s : Int), ∃ (k_1 : Int), ∃ (e : Int), ∃ (n : ByteArray), ∃ (b : ByteArray), F ((0 : Nat) + (at3 k).toNat * (1 : Nat)) = byteB c ∧ F ((0 : Nat) + (at3 k).toNat * (1 : Nat) + (1 : Nat)) = fourB s ∧ F ((0 : Nat) + (at3 k).toNat * (1 : Nat) + (2 : Nat)) = cmdB k_1 e n b ∧ (0 : Nat) + (at3 k).toNat * (1 : Nat) + (3 : Nat) ≤ N ∧ reqOK c s k_1 e n b = true ∧ ob true (ob ((k * (6 : Nat)).beq (k * (6 : Nat))) (ob (decide ((k + (1 : Nat)) * (64 : Nat) ≤ (140737488355328 : Nat))) (k < L.n ∧ ob (IntKind.i64.wrap (at3 k + (3 : Int)) == at3 (k + (1 : Nat))) (ob true (ob true (ob true (ob true (ob true (ob true (ob (N.beq N) (ob (N.ble N) (ob (N.ble N) (ob true (ob true (ob (N.ble N) ((∀ (r : Nat), r < N → F r = F r) ∧ ob true (ob true (ob true (ob true (ob (h == h) (ob (seq par par) (ob true (ob true (ob ((k + (1 : Nat)).beq (k + (1 : Nat))) (ob ((k + (1 : Nat)).ble (k + (1 : Nat))) (ob ((k + (1 : Nat)).ble (k + (1 : Nat))) (ob true (ob true (ob ((k + (1 : Nat)).ble (k + (1 : Nat))) ((∀ (r : Nat), r < k + (1 : Nat) → upF L.c k c r = L.c r) ∧ (∀ (r : Nat), r < k + (1 : Nat) → upF L.s k s r = L.s r) ∧ (∀ (r : Nat), r < k + (1 : Nat) → upF L.k k k_1 r = L.k r) ∧ (∀ (r : Nat), r < k + (1 : Nat) → upF L.e k e r = L.e r) ∧ (∀ (r : Nat), r < k + (1 : Nat) → upF L.nm k n r = L.nm r) ∧ (∀ (r : Nat), r < k + (1 : Nat) → upF L.b k b r = L.b r) ∧ True))))))))))))))))))))))))))))))))) ((∀ (i : Nat), i < k → ∀ (j : Nat), j < i → (L.c j == L.c i && L.s j == L.s i) = false) ∧ (∀ (i : Nat), i < k → reqOK (L.c i) (L.s i) (L.k i) (L.e i) (L.nm i) (L.b i) = true) ∧ ob (k.beq k && k.ble k && (decide (k ≤ (8 : Nat)) && (decide ((0 : Int) ≤ h) && decide (h ≤ (64 : Int)) && par.size == (32 : Nat)))) (K (SV.tup [SV.agg [SV.v (Value.int IntKind.i64 h), SV.v (Value.string par), SV.slc (3 : Nat) (0 : Nat) k k (6 : Nat)], SV.v (Value.bool true)]) [Blk.tab true N [Col.s F], Blk.cells true [SV.v (Value.int IntKind.i64 h), SV.v (Value.string par), SV.slc (3 : Nat) (0 : Nat) k k (6 : Nat)], Blk.cells true [SV.v (Value.int IntKind.i64 h), SV.v (Value.string par), SV.slc (3 : Nat) (0 : Nat) k k (6 : Nat)], Blk.tab true k [Col.i IntKind.i64 L.c, Col.i IntKind.i64 L.s, Col.i IntKind.i64 L.k, Col.i IntKind.i64 L.e, Col.s L.nm, Col.s L.b]] [])))))))))))))))))))))))))))))))))))))) := by kernel_rfl
theorem at3_def (q : Nat) : at3 q = 2 + 3 * (q : Int) := by rw [at3]
/-- What the texts of a block are. -/
def textsF (F : Nat → ByteArray) (h : Int) (par : ByteArray) (L : RT) : Prop := F 0 = byteB h ∧ F 1 = par ∧ ∀ i, i < L.n → F (2 + 3 * i) = byteB (L.c i) ∧ F (2 + 3 * i + 1) = fourB (L.s i) ∧ F (2 + 3 * i + 2) = cmdB (L.k i) (L.e i) (L.nm i) (L.b i)
def blockOK (h : Int) (par : ByteArray) (L : RT) : Prop := (L.n ≤ 8 ∧ (0 ≤ h ∧ h ≤ 64) ∧ par.size = 32) ∧ allOKR L.n L.c L.s L.k L.e L.nm L.b ∧ apartR L.n L.c L.s
def breadS : Spec := .m fun args blks K => match args, blks with
  | [.slc 0 0 m m' 1], [.tab true N [.s F]] => ∃ (h : Int) (par : ByteArray) (L : RT), textsF F h par L ∧ blockOK h par L ∧ ob (Nat.beq m N && Nat.beq m' N) (N = 2 + 3 * L.n ∧
      K (.tup [.agg [.v (.int .i64 h), .v (.string par), .slc 1 0 L.n L.n 6], .v (.bool true)]) [.tab true N [.s F], .tab true L.n L.cols] [])
  | _, _ => False
theorem breadS_ok : SpecOK Tryz.prog 72 breadS := by
  refine m_keep mixed (.cons requestH_ok (.cons bcheckG_ok .nil)) Tryz.func72 rfl rfl fun args blks K hh => ?_
  split at hh
  case h_2 => exact hh.elim
  rename_i m m' N F
  obtain ⟨h, par, L, ⟨hF0, hF1, hF⟩, ⟨⟨hn, hh0, hpar⟩, hall, hap⟩, hh⟩ := hh
  rw [ob_iff] at hh
  simp only [Bool.and_eq_true, Nat.beq_eq] at hh
  obtain ⟨⟨rfl, rfl⟩, hN, hK⟩ := hh
  refine ⟨rdbI h par L m' F, [0, 3], ?_⟩
  rw [bread_vf]
  have hb := bt_byteB hh0.1 (show h < 256 by omega)
  have hw : IntKind.i64.wrap ((m' : Int) - 2) = ((3 * L.n : Nat) : Int) := by rw [wrap_i64 _ (by omega) (by omega)]; omega
  have ht : ((3 * L.n : Nat) : Int).tmod 3 = 0 := by rw [Int.tmod_eq_emod_of_nonneg (by omega)]; omega
  have d0 : decide ((0 : Int) < (m' : Int)) = true := decide_eq_true (by omega)
  have d1 : decide ((1 : Int) < (m' : Int)) = true := decide_eq_true (by omega)
  have d2 : decide (0 < m') = true := decide_eq_true (by omega)
  have d3 : decide (1 < m') = true := decide_eq_true (by omega)
  have d4 : decide ((m' : Int) < 2) = false := decide_eq_false (by omega)
  have a0 : ((2 : Int) == at3 0) = true := by rw [at3_def]; rfl
  have hpp : seq par par = true := seq_rfl par
  simp only [d4, bc_f, ob_t, hw, ht, cond_false, bne_self_eq_false, d0, d1, d2, d3, Bool.true_and, hF0, hF1, byteB_size, hb, a0, beq_self_eq_true, Nat.beq_refl, nble, hpp, implies_true, true_and]
  refine bc_mk (fun hx => by simp at hx) fun _ => ob_mk (by simp) fun k hk => bc_mk (fun h1 => ?_) (fun h1 => ?_)
  · have h1 := of_decide_eq_true h1
    have hkn : k < L.n := by rw [at3_def] at h1; omega
    obtain ⟨f1, f2, f3⟩ := hF k hkn
    have w1 : IntKind.i64.wrap (at3 k + 3) = at3 (k + 1) := by rw [at3_def, at3_def, wrap_i64 _ (by omega) (by omega)]; omega
    have n1 : (at3 k).toNat = 2 + 3 * k := by rw [at3_def]; omega
    have n2 : (at3 (k + 1)).toNat = 2 + 3 * k + 3 := by rw [at3_def]; omega
    rw [w1, n1, n2]
    simp only [Nat.mul_one, Nat.zero_add]
    have hup : ∀ {α : Type} (f : Nat → α) (r : Nat), upF f k (f k) r = f r := fun f r => by
      unfold upF
      by_cases e : r = k
      · subst e; rw [Nat.beq_refl]; rfl
      · rw [beq_false e]; rfl
    refine ob_mk (by rw [at3_def, at3_def]; simp only [Bool.and_eq_true, decide_eq_true_eq]; omega) (ob_mk (by rw [Nat.add_sub_cancel_left]; rfl) ⟨L.c k, L.s k, L.k k, L.e k, L.nm k, L.b k, f1, f2, f3, by omega, hall k hkn, ob_mk (decide_eq_true (by omega)) ⟨hkn, ob_mk (beq_self_eq_true _) ?_⟩⟩)
    exact ⟨fun r _ => hup _ r, fun r _ => hup _ r, fun r _ => hup _ r, fun r _ => hup _ r, fun r _ => hup _ r, fun r _ => hup _ r, trivial⟩
  · have h1 := of_decide_eq_false h1
    have hkn : k = L.n := by rw [at3_def] at h1; omega
    subst hkn
    refine ⟨hap, hall, ob_mk (by simp only [Bool.and_eq_true, decide_eq_true_eq, beq_iff_eq]; exact ⟨hn, hh0, hpar⟩) ?_⟩
    exact ⟨rfl, _, rfl, hK⟩

end Go.Proofs.YtmnenigmkfnciaaGreatDoor.Sx
/- block.Decode and block.Chain of blocks' texts. No condition. -/
namespace Go.Proofs.YtmnenigmkfnciaaGreatDoor.Sx
open Go Go.Proofs
set_option maxRecDepth 100000
set_option linter.unusedSimpArgs false
set_option linter.unusedVariables false

theorem dec_vf (x : ByteArray) (K : SV → List Blk → List Nat → Prop) : vf Tryz.prog [(71, readS), (72, breadS)] (noI) Tryz.f37 [.v (.string x)] [] K =
  (∃ (ts : List ByteArray), x = textsB ts ∧ lenT ts < (4294967296 : Nat) ∧ bc (bif false then true else decide ((↑x.size : Int) > (4096 : Int))) (K (SV.tup [SV.agg [SV.v (Value.int IntKind.i64 (0 : Int)), SV.v (Value.string (ByteArray.mk (Array.mk []))), SV.v (Value.slice none (0 : Nat) (0 : Nat))], SV.v (Value.int IntKind.i64 (3 : Int))]) [Blk.cells true [SV.v (Value.int IntKind.i64 (0 : Int)), SV.v (Value.string (ByteArray.mk (Array.mk []))), SV.v (Value.slice none (0 : Nat) (0 : Nat))], Blk.tab true ts.length [Col.s (nthS ts)]] []) (∃ (h : Int), ∃ (par : ByteArray), ∃ (L : RT), (nthS ts (0 : Nat) = byteB h ∧ nthS ts (1 : Nat) = par ∧ ∀ (i : Nat), i < L.n → nthS ts ((2 : Nat) + (3 : Nat) * i) = byteB (L.c i) ∧ nthS ts ((2 : Nat) + (3 : Nat) * i + (1 : Nat)) = fourB (L.s i) ∧ nthS ts ((2 : Nat) + (3 : Nat) * i + (2 : Nat)) = cmdB (L.k i) (L.e i) (L.nm i) (L.b i)) ∧ ((L.n ≤ (8 : Nat) ∧ ((0 : Int) ≤ h ∧ h ≤ (64 : Int)) ∧ par.size = (32 : Nat)) ∧ (∀ (i : Nat), i < L.n → reqOK (L.c i) (L.s i) (L.k i) (L.e i) (L.nm i) (L.b i) = true) ∧ ∀ (i : Nat), i < L.n → ∀ (j : Nat), j < i → (L.c j == L.c i && L.s j == L.s i) = false) ∧ ob (ts.length.beq ts.length && ts.length.beq ts.length) (ts.length = (2 : Nat) + (3 : Nat) * L.n ∧ K (SV.tup [SV.agg [SV.v (Value.int IntKind.i64 h), SV.v (Value.string par), SV.slc (2 : Nat) (0 : Nat) L.n L.n (6 : Nat)], SV.v (Value.int IntKind.i64 (0 : Int))]) [Blk.cells true [SV.v (Value.int IntKind.i64 h), SV.v (Value.string par), SV.slc (2 : Nat) (0 : Nat) L.n L.n (6 : Nat)], Blk.tab true ts.length [Col.s (nthS ts)], Blk.tab true L.n [Col.i IntKind.i64 L.c, Col.i IntKind.i64 L.s, Col.i IntKind.i64 L.k, Col.i IntKind.i64 L.e, Col.s L.nm, Col.s L.b], Blk.cells true [SV.v (Value.int IntKind.i64 h), SV.v (Value.string par), SV.slc (2 : Nat) (0 : Nat) L.n L.n (6 : Nat)]] []))) := by kernel_rfl
theorem nth_app : ∀ (l : List ByteArray) (x : ByteArray) (i : Nat), nthS (l ++ [x]) i = if i = l.length then x else nthS l i := fun l x i => by
  rw [nthS_def, nthS_def, List.getD_eq_getElem?_getD, List.getD_eq_getElem?_getD, List.getElem?_append]
  split
  · rw [if_neg (by omega)]
  · split
    · rename_i h; subst h; simp
    · rename_i h1 h2
      rw [List.getElem?_eq_none (by simp; omega), List.getElem?_eq_none (by omega)]
theorem listF_length (f : Nat → ByteArray) (m : Nat) : (listF f m).length = m := by rw [listF_def, List.length_map, List.length_range]
theorem nth_list (f : Nat → ByteArray) : ∀ (m i : Nat), i < m → nthS (listF f m) i = f i
  | 0, i, h => by omega
  | m + 1, i, h => by
    rw [listF_succ, nth_app, listF_length]
    split
    · rename_i h1; rw [h1]
    · exact nth_list f m i (by omega)
def decodeG : Spec := .m fun args blks K => match args, blks with
  | [.v (.string x)], [] => ∃ (h : Int) (par : ByteArray) (L : RT), x = encB h par L ∧ blockOK h par L ∧ smallR L.n L.nm L.b ∧ K (.tup [.agg [.v (.int .i64 h), .v (.string par), .slc 0 0 L.n L.n 6], .v (.int .i64 0)]) [.tab true L.n L.cols] []
  | _, _ => False
theorem decodeG_ok : SpecOK Tryz.prog 37 decodeG := by
  refine m_keep mixed (.cons readS_ok (.cons breadS_ok .nil)) Tryz.func37 rfl rfl fun args blks K hh => ?_
  split at hh
  case h_2 => exact hh.elim
  obtain ⟨h, par, L, rfl, hB, hs, hK⟩ := hh
  refine ⟨noI, [2], ?_⟩
  rw [dec_vf, encB_def]
  have hl := encF_len h par L hB.1.2.2 L.n hs
  have hn := hB.1.1
  have hlen := listF_length (encF h par L) (2 + 3 * L.n)
  refine ⟨_, rfl, by omega, bc_mk (fun hx => ?_) fun _ => ⟨h, par, L, ⟨?_, ?_, fun i hi => ?_⟩, hB, ob_mk (by rw [Nat.beq_refl]; rfl) ⟨hlen, ?_⟩⟩⟩
  · rw [cond_false, decide_eq_true_eq, textsB_size] at hx; omega
  · rw [nth_list _ _ _ (by omega), encF_0]
  · rw [nth_list _ _ _ (by omega), encF_1]
  · rw [nth_list _ _ _ (by omega), nth_list _ _ _ (by omega), nth_list _ _ _ (by omega)]
    exact ⟨encF_a h par L i, encF_b h par L i, encF_c h par L i⟩
  · exact ⟨rfl, _, rfl, hK⟩
def prtF (f : Nat → ByteArray) (i : Nat) : ByteArray := if i = 0 then firstB else shaD (f (i - 1))
theorem prtF_0 (f : Nat → ByteArray) : prtF f 0 = firstB := by rw [prtF, if_pos rfl]
theorem prtF_s (f : Nat → ByteArray) (i : Nat) : prtF f (i + 1) = shaD (f i) := by rw [prtF, if_neg (by omega), Nat.add_sub_cancel]
 attribute [irreducible] prtF
def chSh (f : Nat → ByteArray) (m p i : Nat) : St := ⟨[(12, inat i), (11, inat m), (10, .slc 0 0 m p 1), (4, .v (.string (prtF f i))), (0, .slc 0 0 m p 1)], 42, [.tab false m [.s f]], [], 1⟩
def chI (f : Nat → ByteArray) (m p : Nat) : Nat → St → LK := fun _ _ => .inv m (chSh f m p)
theorem chain_vf (f : Nat → ByteArray) (m p : Nat) (K : SV → List Blk → List Nat → Prop) : vf Tryz.prog [(6, firstS), (37, decodeG), (10, shaS)] (chI f m p) Tryz.f12 [.slc 0 0 m p 1] [.tab false m [.s f]] K =
  (ob true (ob ((↑m : Int) == (↑m : Int)) (ob true (ob true (ob (m.beq m) (ob (p.ble p) (ob (m.ble p) (ob true (ob (seq firstB (prtF f (0 : Nat))) (ob true (ob true (ob (m.beq m) (ob (p.ble p) (ob (m.ble p) (ob true (ob true (ob (m.ble m) ((∀ (r : Nat), r < m → f r = f r) ∧ ∀ (k : Nat), k ≤ m → bc (decide ((↑k : Int) < (↑m : Int))) (ob (true && decide ((↑k : Int) < (↑m : Int))) (ob true (ob (decide ((0 : Nat) + (↑k : Int).toNat < m)) (∃ (h : Int), ∃ (par : ByteArray), ∃ (L : RT), f ((0 : Nat) + (↑k : Int).toNat) = encB h par L ∧ ((L.n ≤ (8 : Nat) ∧ ((0 : Int) ≤ h ∧ h ≤ (64 : Int)) ∧ par.size = (32 : Nat)) ∧ (∀ (i : Nat), i < L.n → reqOK (L.c i) (L.s i) (L.k i) (L.e i) (L.nm i) (L.b i) = true) ∧ ∀ (i : Nat), i < L.n → ∀ (j : Nat), j < i → (L.c j == L.c i && L.s j == L.s i) = false) ∧ (∀ (i : Nat), i < L.n → (L.nm i).size + (L.b i).size ≤ (416 : Nat)) ∧ bc (bif false then true else h != (↑k : Int)) (K (SV.tup [SV.v (Value.int IntKind.i64 (↑k : Int)), SV.v (Value.int IntKind.i64 (3 : Int))]) [Blk.tab false m [Col.s f], Blk.tab true L.n [Col.i IntKind.i64 L.c, Col.i IntKind.i64 L.s, Col.i IntKind.i64 L.k, Col.i IntKind.i64 L.e, Col.s L.nm, Col.s L.b], Blk.cells true [SV.v (Value.int IntKind.i64 h), SV.v (Value.string par), SV.slc (1 : Nat) (0 : Nat) L.n L.n (6 : Nat)]] []) (bc (bif false then true else !seq par (prtF f k)) (K (SV.tup [SV.v (Value.int IntKind.i64 (↑k : Int)), SV.v (Value.int IntKind.i64 (3 : Int))]) [Blk.tab false m [Col.s f], Blk.tab true L.n [Col.i IntKind.i64 L.c, Col.i IntKind.i64 L.s, Col.i IntKind.i64 L.k, Col.i IntKind.i64 L.e, Col.s L.nm, Col.s L.b], Blk.cells true [SV.v (Value.int IntKind.i64 h), SV.v (Value.string par), SV.slc (1 : Nat) (0 : Nat) L.n L.n (6 : Nat)]] []) (ob (decide ((f ((0 : Nat) + (↑k : Int).toNat)).size ≤ (1000000 : Nat))) (k < m ∧ ob (IntKind.i64.wrap ((↑k : Int) + (1 : Int)) == (↑(k + (1 : Nat)) : Int)) (ob ((↑m : Int) == (↑m : Int)) (ob true (ob true (ob (m.beq m) (ob (p.ble p) (ob (m.ble p) (ob true (ob (seq (shaD (f ((0 : Nat) + (↑k : Int).toNat))) (prtF f (k + (1 : Nat)))) (ob true (ob true (ob (m.beq m) (ob (p.ble p) (ob (m.ble p) (ob true (ob true (ob (m.ble m) ((∀ (r : Nat), r < m → f r = f r) ∧ True)))))))))))))))))))))))) (K (SV.tup [SV.v (Value.int IntKind.i64 (↑m : Int)), SV.v (Value.int IntKind.i64 (0 : Int))]) [Blk.tab false m [Col.s f]] []))))))))))))))))))) := by kernel_rfl
/-- Texts that are blocks, one behind the other. -/
def goodC (f : Nat → ByteArray) (m : Nat) : Prop := ∀ i, i < m → ∃ L : RT, f i = encB (i : Int) (prtF f i) L ∧ blockOK (i : Int) (prtF f i) L ∧ smallR L.n L.nm L.b
def chainG : Spec := .q fun args blks K => match args, blks with
  | [.slc 0 0 m p 1], [.tab false N [.s f]] => goodC f m ∧ ob ((Nat.beq N m && Nat.ble m p) && decide (m ≤ 64)) (K (.tup [.v (.int .i64 (m : Nat)), .v (.int .i64 0)]))
  | _, _ => False
theorem chainG_ok : SpecOK Tryz.prog 12 chainG := by
  refine q_ro mixed (.cons firstS_ok (.cons decodeG_ok (.cons digS_ok .nil))) Tryz.func12 rfl rfl fun args blks K hh => ?_
  split at hh
  case h_2 => exact hh.elim
  rename_i m p N f
  obtain ⟨hg, hh⟩ := hh
  rw [ob_iff] at hh
  simp only [Bool.and_eq_true, decide_eq_true_eq, Nat.ble_eq, Nat.beq_eq] at hh
  obtain ⟨⟨⟨rfl, hp⟩, hm⟩, hK⟩ := hh
  refine ⟨_, rfl, hK, rfl, chI f N p, (chain_vf f N p _).mpr ?_⟩
  have g1 : N.ble p = true := Nat.ble_eq.mpr hp
  clear hK
  rw [prtF_0]
  have hsq : seq firstB firstB = true := seq_rfl _
  (repeat (first | (with_reducible refine ob_true ?_) | refine ob_mk (by first | (with_reducible exact beq_self_eq_true _) | (with_reducible exact nbeq _) | (with_reducible exact nble _) | (with_reducible exact seq_rfl _) | (with_reducible assumption) | (simp only [decide_eq_true_eq, Bool.and_eq_true, beq_iff_eq, Bool.true_and, Bool.and_true, Nat.beq_eq, Nat.ble_eq, true_and, and_true, ge_iff_le, gt_iff_lt]; first | done | omega)) ?_))
  refine ⟨fun _ _ => rfl, ?_⟩
  intro k hk
  refine bc_mk (fun h1 => ?_) (fun h1 => ?_)
  · have h1 := of_decide_eq_true h1
    have hkn : k < N := by omega
    obtain ⟨L, hf, hB, hs⟩ := hg k hkn
    have hsz : (f k).size ≤ 1000000 := by
      rw [hf, encB_def, textsB_size]
      have h2 := encF_len (k : Int) (prtF f k) L hB.1.2.2 L.n hs
      have h3 := hB.1.1
      omega
    have hw : IntKind.i64.wrap ((k : Int) + 1) = ((k + 1 : Nat) : Int) := by rw [wrap_i64 _ (by omega) (by omega)]; omega
    simp only [Int.toNat_natCast, Nat.zero_add, hw]
    refine ob_mk (by simp only [Bool.true_and, decide_eq_true_eq]; omega) (ob_mk rfl (ob_mk (decide_eq_true (by omega)) ⟨(k : Int), prtF f k, L, hf, hB, hs, bc_mk (fun hx => by simp at hx) fun _ => bc_mk (fun hx => by rw [cond_false, seq_rfl] at hx; cases hx) fun _ => ob_mk (decide_eq_true hsz) ⟨hkn, ?_⟩⟩))
    have hsp : seq (shaD (f k)) (prtF f (k + 1)) = true := by rw [prtF_s]; exact seq_rfl _
    clear hg hf hB hs hsz hw
    (repeat (first | (with_reducible refine ob_true ?_) | refine ob_mk (by first | (with_reducible exact beq_self_eq_true _) | (with_reducible exact nbeq _) | (with_reducible exact nble _) | (with_reducible exact seq_rfl _) | (with_reducible assumption) | (simp only [decide_eq_true_eq, Bool.and_eq_true, beq_iff_eq, Bool.true_and, Bool.and_true, Nat.beq_eq, Nat.ble_eq, true_and, and_true, ge_iff_le, gt_iff_lt]; first | done | omega)) ?_))
    (repeat' (first | (with_reducible exact trivial) | (exact fun _ _ => rfl) | (exact fun _ _ => trivial) | (exact fun _ _ => ⟨rfl, rfl⟩) | (exact fun _ _ => ⟨rfl, rfl, rfl, trivial⟩) | (with_reducible refine ob_true ?_) | (with_reducible apply And.intro) | (with_reducible refine ob_mk ?hob ?_; case hob => exact (by first | (with_reducible exact beq_self_eq_true _) | (with_reducible exact nbeq _) | (with_reducible exact nble _) | (with_reducible exact seq_rfl _) | (with_reducible assumption) | (simp only [decide_eq_true_eq, Bool.and_eq_true, beq_iff_eq, Bool.true_and, Bool.and_true, Nat.beq_eq, Nat.ble_eq, true_and, and_true, ge_iff_le, gt_iff_lt]; first | done | omega)))))
  · have h1 := of_decide_eq_false h1
    have : k = N := by omega
    subst this
    rfl

end Go.Proofs.YtmnenigmkfnciaaGreatDoor.Sx
