/- TopBlocks: the pool's Put, the deletion of the first, by contract. No condition. -/
import Derived.Test.YtmnenigmkfnciaaGreatDoorInsO
import Derived.Test.YtmnenigmkfnciaaGreatDoorSx13
import Derived.Test.YtmnenigmkfnciaaGreatDoorProg
import Derived.Test.YtmnenigmkfnciaaGreatDoorBase
import Derived.Test.YtmnenigmkfnciaaGreatDoorMB
import Derived.Test.YtmnenigmkfnciaaGreatDoorMC
/- pool: slices.Insert of a Request among at most three: the contract. Printed by gen_pool3.py, but for the plain lines. No condition. -/
namespace Go.Proofs.YtmnenigmkfnciaaGreatDoor.Sx
open Go Go.Proofs
set_option maxRecDepth 100000
set_option linter.unusedSimpArgs false
set_option linter.unusedVariables false

def insF {α : Type} (f : Nat → α) (i : Nat) (x : α) : Nat → α := fun q => cond (Nat.blt q i) (f q) (cond (Nat.beq q i) x (f (q - 1)))
/-- A request put in at a place. -/
def RT.ins (r : RT) (i : Nat) (c s k e : Int) (n b : ByteArray) : RT := ⟨r.n + 1, insF r.c i c, insF r.s i s, insF r.k i k, insF r.e i e, insF r.nm i n, insF r.b i b⟩
theorem FnOK.retell {P : Program} {f : FuncId} {args : List SV} {tbl : List Blk} {K : SV → List Blk → List Nat → Prop} (h : FnOK P f args tbl fun s t m => ∃ b b' k, t[0]? = some b ∧ b.wr = true ∧ (∀ N ρ σ pre, Pre N ρ σ b pre → Pre N ρ σ b' (pre.take k)) ∧ K s (t.set 0 b') m) : FnOK P f args tbl K :=
  fun B ρ σ us w hr hT => (h B ρ σ us w hr hT).mono fun e w' ⟨s, v, t, m, ρ', σ', h1, h2, h3, h4, h5, b, b', k, h6, h7, h8, h9⟩ =>
    ⟨s, v, t.set 0 b', m, ρ', σ', h1, by rw [List.length_set]; exact h2, by rw [List.length_set]; exact h3, h4, h5.toldK k h6 h7 (fun pre hp => h8 _ _ _ pre hp), h9⟩
/-- A block is told in other words, or more of it. -/
theorem TOK.reB {ρ : Nat → Nat} {σ : Nat → Nat × Nat} {B : Base} {tbl : List Blk} {w : World} (h : TOK ρ σ B tbl w) {i : Nat} {b b' : Blk} (hb : tbl[i]? = some b) (hw : b.wr = true) (hb'm : b'.isMap = false) (hl : ((σ i).1 = 0 ∧ b'.len = 0) ∨ ∃ pre, Pre tbl.length ρ σ b' pre ∧ Lies w (ρ i) (σ i) pre) : TOK ρ σ B (tbl.set i b') w := by
  have hd0 := isDead_of_wr hw
  refine ⟨h.gl, h.fr, fun j c hj hd => ?_, fun j c hj hd hs => ?_, fun j c hj hd hs => ?_, fun j j' c d hj hj' hc hd hx hsi hsj he => ?_, ?_⟩
  rotate_left 4
  · refine h.mok.via id (fun j d hj hm => ?_) (fun _ _ _ _ _ _ _ _ h => h)
    rcases getElem?_setS hj with ⟨e, hj⟩ | ⟨rfl, rfl⟩
    · exact ⟨d, hj, hm, rfl, rfl, fun o ho => by rw [List.length_set]; exact ho, fun h => h, fun h => h, fun _ h => h⟩
    · rw [hb'm] at hm; cases hm
  · rw [List.length_set]
    rcases getElem?_setS hj with ⟨e, hj⟩ | ⟨rfl, rfl⟩
    · exact h.lies j c hj hd
    · exact hl
  · rcases getElem?_setS hj with ⟨e, hj⟩ | ⟨rfl, rfl⟩
    · exact h.dom j c hj hd hs
    · exact h.dom j b hb hd0 hs
  · rcases getElem?_setS hj with ⟨e, hj⟩ | ⟨rfl, rfl⟩
    · exact h.domw j c hj hd hs
    · exact h.domw j b hb hw hs
  · rcases getElem?_setS hj with ⟨e, hj1⟩ | ⟨e1, _⟩ <;> rcases getElem?_setS hj' with ⟨e', hj2⟩ | ⟨e2, _⟩
    · exact h.inj j j' c d hj1 hj2 hc hd hx hsi hsj he
    · subst e2; exact h.inj j j' c b hj1 hb hc hd0 (by rw [hw, Bool.or_true]) hsi hsj he
    · subst e1; exact h.inj j j' b d hb hj2 hd0 hd (by rw [hw, Bool.true_or]) hsi hsj he
    · omega
/-- What lies, and as much behind it as there is room for. -/
theorem Lies.more {w : World} {b : Nat} {z : Nat × Nat} {pre : List Value} (h : Lies w b z pre) (k : Nat) (hk : pre.length + k ≤ z.1) : ∃ x, x.length = k ∧ Lies w b z (pre ++ x) := by
  obtain ⟨cs, T, fr, head, rest, h1, h2, h3, h4, h5, h6⟩ := h
  have hl := congrArg List.length h4
  simp at hl
  refine ⟨rest.take k, by rw [List.length_take]; omega, cs, T, fr, head, rest.drop k, h1, h2, h3, ?_, h5, ?_⟩
  · rw [h4, List.append_assoc pre, List.take_append_drop]
  · rw [List.length_append, List.length_take]; omega
theorem insa_vf (r : RT) (c s k e : Int) (n b : ByteArray) (K : SV → List Blk → List Nat → Prop) : vf Tryz.prog [] (noI) Tryz.f29 [.slc 0 0 r.n r.n 6, .v (.int .i64 ((r.n : Nat) : Int)), .slc 1 0 1 1 6] [.tab true r.n r.cols, .cells true [.v (.int .i64 c), .v (.int .i64 s), .v (.int .i64 k), .v (.int .i64 e), .v (.string n), .v (.string b)]] K =
  (ob (true && decide ((↑r.n : Int) ≤ (↑r.n : Int))) (bc ((↑r.n : Int) == (↑r.n : Int)) (ob true (ob ((r.n * (6 : Nat)).beq (r.n * (6 : Nat))) (ob (decide ((r.n + (1 : Nat)) * (64 : Nat) ≤ (140737488355328 : Nat))) (K (SV.slc (0 : Nat) (0 : Nat) (r.n + (1 : Nat)) (r.n + (1 : Nat)) (6 : Nat)) [Blk.tab true (r.n + (1 : Nat)) [Col.i IntKind.i64 (upF r.c r.n c), Col.i IntKind.i64 (upF r.s r.n s), Col.i IntKind.i64 (upF r.k r.n k), Col.i IntKind.i64 (upF r.e r.n e), Col.s (upF r.nm r.n n), Col.s (upF r.b r.n b)], Blk.cells true [SV.v (Value.int IntKind.i64 c), SV.v (Value.int IntKind.i64 s), SV.v (Value.int IntKind.i64 k), SV.v (Value.int IntKind.i64 e), SV.v (Value.string n), SV.v (Value.string b)]] [(0 : Nat)])))) (∀ (q : Nat), r.n ≤ q → bc (decide (IntKind.i64.wrap ((↑r.n : Int) + (1 : Int)) > (↑q : Int))) (ob (true && decide ((↑r.n : Int) ≤ (↑r.n : Int))) False) (ob (decide ((0 : Int) ≤ IntKind.i64.wrap ((↑r.n : Int) + (1 : Int))) && decide (IntKind.i64.wrap ((↑r.n : Int) + (1 : Int)) ≤ (↑r.n : Int))) (ob (decide ((0 : Int) ≤ IntKind.i64.wrap ((↑r.n : Int) + (1 : Int))) && decide (IntKind.i64.wrap ((↑r.n : Int) + (1 : Int)) ≤ (↑(IntKind.i64.wrap ((↑r.n : Int) + (1 : Int))).toNat : Int))) False))))) := by kernel_rfl
def insertS : Spec := .m fun args blks K => match args with
  | [.slc 0 0 m m' 6, .v (.int .i64 z), .slc 1 0 1 1 6] => ∃ (r : RT) (i : Nat) (c s k e : Int) (n b : ByteArray), blks = [.tab true r.n r.cols, .cells true [.v (.int .i64 c), .v (.int .i64 s), .v (.int .i64 k), .v (.int .i64 e), .v (.string n), .v (.string b)]] ∧ z = (i : Nat) ∧ ob ((Nat.beq r.n m && Nat.beq r.n m') && (decide (i ≤ r.n) && decide (r.n ≤ 3)))
      (K (.slc 0 0 (r.n + 1) (r.n + 1) 6) [.tab true (r.n + 1) (r.ins i c s k e n b).cols, .cells true [.v (.int .i64 c), .v (.int .i64 s), .v (.int .i64 k), .v (.int .i64 e), .v (.string n), .v (.string b)]] [0])
  | _ => False
def insQ (r : RT) (i : Nat) (c s k e : Int) (n b : ByteArray) : SV → List Blk → List Nat → Prop := fun s' t' m' => s' = .slc 0 0 (r.n + 1) (r.n + 1) 6 ∧ t' = [.tab true (r.n + 1) (r.ins i c s k e n b).cols, .cells true [.v (.int .i64 c), .v (.int .i64 s), .v (.int .i64 k), .v (.int .i64 e), .v (.string n), .v (.string b)]] ∧ m' = []
theorem pre_v {N : Nat} {ρ : Nat → Nat} {σ : Nat → Nat × Nat} {l : List SV} {u : List Value} {wr : Bool} {cols : List Col} {n k : Nat} (hl : pvoL l = some u) (hu : u.take k = rowsL cols n) (pre : List Value) (h : Pre N ρ σ (.cells wr l) pre) : Pre N ρ σ (.tab wr n cols) (pre.take k) := by
  simp only [Pre] at h ⊢
  rw [(pvoL_rel l u pre hl).1 h, hu]
theorem insb10_tab (r : RT) (hn : r.n = 1) (c s k e : Int) (n b : ByteArray) : FnOK Tryz.prog 29 [.slc 0 0 1 2 6, .v (.int .i64 0), .slc 1 0 1 1 6] [.cells true [(.v (.int .i64 (r.c 0))), (.v (.int .i64 (r.s 0))), (.v (.int .i64 (r.k 0))), (.v (.int .i64 (r.e 0))), (.v (.string (r.nm 0))), (.v (.string (r.b 0))), .unk, .unk, .unk, .unk, .unk, .unk], .cells true [.v (.int .i64 c), .v (.int .i64 s), .v (.int .i64 k), .v (.int .i64 e), .v (.string n), .v (.string b)]] (insQ r 0 c s k e n b) := by
  refine FnOK.retell ((insb10_ok r c s k e n b).mono fun s' t' m' h => ?_)
  obtain ⟨rfl, rfl, rfl⟩ := h
  refine ⟨_, .tab true 2 (r.ins 0 c s k e n b).cols, 12, rfl, rfl, fun N ρ σ pre hp => pre_v (by rfl) (by rfl) pre hp, ?_⟩
  unfold insQ
  rw [hn]
  exact ⟨rfl, rfl, rfl⟩
theorem insb20_tab (r : RT) (hn : r.n = 2) (c s k e : Int) (n b : ByteArray) : FnOK Tryz.prog 29 [.slc 0 0 2 3 6, .v (.int .i64 0), .slc 1 0 1 1 6] [.cells true [(.v (.int .i64 (r.c 0))), (.v (.int .i64 (r.s 0))), (.v (.int .i64 (r.k 0))), (.v (.int .i64 (r.e 0))), (.v (.string (r.nm 0))), (.v (.string (r.b 0))), (.v (.int .i64 (r.c 1))), (.v (.int .i64 (r.s 1))), (.v (.int .i64 (r.k 1))), (.v (.int .i64 (r.e 1))), (.v (.string (r.nm 1))), (.v (.string (r.b 1))), .unk, .unk, .unk, .unk, .unk, .unk], .cells true [.v (.int .i64 c), .v (.int .i64 s), .v (.int .i64 k), .v (.int .i64 e), .v (.string n), .v (.string b)]] (insQ r 0 c s k e n b) := by
  refine FnOK.retell ((insb20_ok r c s k e n b).mono fun s' t' m' h => ?_)
  obtain ⟨rfl, rfl, rfl⟩ := h
  refine ⟨_, .tab true 3 (r.ins 0 c s k e n b).cols, 18, rfl, rfl, fun N ρ σ pre hp => pre_v (by rfl) (by rfl) pre hp, ?_⟩
  unfold insQ
  rw [hn]
  exact ⟨rfl, rfl, rfl⟩
theorem insb21_tab (r : RT) (hn : r.n = 2) (c s k e : Int) (n b : ByteArray) : FnOK Tryz.prog 29 [.slc 0 0 2 3 6, .v (.int .i64 1), .slc 1 0 1 1 6] [.cells true [(.v (.int .i64 (r.c 0))), (.v (.int .i64 (r.s 0))), (.v (.int .i64 (r.k 0))), (.v (.int .i64 (r.e 0))), (.v (.string (r.nm 0))), (.v (.string (r.b 0))), (.v (.int .i64 (r.c 1))), (.v (.int .i64 (r.s 1))), (.v (.int .i64 (r.k 1))), (.v (.int .i64 (r.e 1))), (.v (.string (r.nm 1))), (.v (.string (r.b 1))), .unk, .unk, .unk, .unk, .unk, .unk], .cells true [.v (.int .i64 c), .v (.int .i64 s), .v (.int .i64 k), .v (.int .i64 e), .v (.string n), .v (.string b)]] (insQ r 1 c s k e n b) := by
  refine FnOK.retell ((insb21_ok r c s k e n b).mono fun s' t' m' h => ?_)
  obtain ⟨rfl, rfl, rfl⟩ := h
  refine ⟨_, .tab true 3 (r.ins 1 c s k e n b).cols, 18, rfl, rfl, fun N ρ σ pre hp => pre_v (by rfl) (by rfl) pre hp, ?_⟩
  unfold insQ
  rw [hn]
  exact ⟨rfl, rfl, rfl⟩
theorem insb30_tab (r : RT) (hn : r.n = 3) (c s k e : Int) (n b : ByteArray) : FnOK Tryz.prog 29 [.slc 0 0 3 4 6, .v (.int .i64 0), .slc 1 0 1 1 6] [.cells true [(.v (.int .i64 (r.c 0))), (.v (.int .i64 (r.s 0))), (.v (.int .i64 (r.k 0))), (.v (.int .i64 (r.e 0))), (.v (.string (r.nm 0))), (.v (.string (r.b 0))), (.v (.int .i64 (r.c 1))), (.v (.int .i64 (r.s 1))), (.v (.int .i64 (r.k 1))), (.v (.int .i64 (r.e 1))), (.v (.string (r.nm 1))), (.v (.string (r.b 1))), (.v (.int .i64 (r.c 2))), (.v (.int .i64 (r.s 2))), (.v (.int .i64 (r.k 2))), (.v (.int .i64 (r.e 2))), (.v (.string (r.nm 2))), (.v (.string (r.b 2))), .unk, .unk, .unk, .unk, .unk, .unk], .cells true [.v (.int .i64 c), .v (.int .i64 s), .v (.int .i64 k), .v (.int .i64 e), .v (.string n), .v (.string b)]] (insQ r 0 c s k e n b) := by
  refine FnOK.retell ((insb30_ok r c s k e n b).mono fun s' t' m' h => ?_)
  obtain ⟨rfl, rfl, rfl⟩ := h
  refine ⟨_, .tab true 4 (r.ins 0 c s k e n b).cols, 24, rfl, rfl, fun N ρ σ pre hp => pre_v (by rfl) (by rfl) pre hp, ?_⟩
  unfold insQ
  rw [hn]
  exact ⟨rfl, rfl, rfl⟩
theorem insb31_tab (r : RT) (hn : r.n = 3) (c s k e : Int) (n b : ByteArray) : FnOK Tryz.prog 29 [.slc 0 0 3 4 6, .v (.int .i64 1), .slc 1 0 1 1 6] [.cells true [(.v (.int .i64 (r.c 0))), (.v (.int .i64 (r.s 0))), (.v (.int .i64 (r.k 0))), (.v (.int .i64 (r.e 0))), (.v (.string (r.nm 0))), (.v (.string (r.b 0))), (.v (.int .i64 (r.c 1))), (.v (.int .i64 (r.s 1))), (.v (.int .i64 (r.k 1))), (.v (.int .i64 (r.e 1))), (.v (.string (r.nm 1))), (.v (.string (r.b 1))), (.v (.int .i64 (r.c 2))), (.v (.int .i64 (r.s 2))), (.v (.int .i64 (r.k 2))), (.v (.int .i64 (r.e 2))), (.v (.string (r.nm 2))), (.v (.string (r.b 2))), .unk, .unk, .unk, .unk, .unk, .unk], .cells true [.v (.int .i64 c), .v (.int .i64 s), .v (.int .i64 k), .v (.int .i64 e), .v (.string n), .v (.string b)]] (insQ r 1 c s k e n b) := by
  refine FnOK.retell ((insb31_ok r c s k e n b).mono fun s' t' m' h => ?_)
  obtain ⟨rfl, rfl, rfl⟩ := h
  refine ⟨_, .tab true 4 (r.ins 1 c s k e n b).cols, 24, rfl, rfl, fun N ρ σ pre hp => pre_v (by rfl) (by rfl) pre hp, ?_⟩
  unfold insQ
  rw [hn]
  exact ⟨rfl, rfl, rfl⟩
theorem insb32_tab (r : RT) (hn : r.n = 3) (c s k e : Int) (n b : ByteArray) : FnOK Tryz.prog 29 [.slc 0 0 3 4 6, .v (.int .i64 2), .slc 1 0 1 1 6] [.cells true [(.v (.int .i64 (r.c 0))), (.v (.int .i64 (r.s 0))), (.v (.int .i64 (r.k 0))), (.v (.int .i64 (r.e 0))), (.v (.string (r.nm 0))), (.v (.string (r.b 0))), (.v (.int .i64 (r.c 1))), (.v (.int .i64 (r.s 1))), (.v (.int .i64 (r.k 1))), (.v (.int .i64 (r.e 1))), (.v (.string (r.nm 1))), (.v (.string (r.b 1))), (.v (.int .i64 (r.c 2))), (.v (.int .i64 (r.s 2))), (.v (.int .i64 (r.k 2))), (.v (.int .i64 (r.e 2))), (.v (.string (r.nm 2))), (.v (.string (r.b 2))), .unk, .unk, .unk, .unk, .unk, .unk], .cells true [.v (.int .i64 c), .v (.int .i64 s), .v (.int .i64 k), .v (.int .i64 e), .v (.string n), .v (.string b)]] (insQ r 2 c s k e n b) := by
  refine FnOK.retell ((insb32_ok r c s k e n b).mono fun s' t' m' h => ?_)
  obtain ⟨rfl, rfl, rfl⟩ := h
  refine ⟨_, .tab true 4 (r.ins 2 c s k e n b).cols, 24, rfl, rfl, fun N ρ σ pre hp => pre_v (by rfl) (by rfl) pre hp, ?_⟩
  unfold insQ
  rw [hn]
  exact ⟨rfl, rfl, rfl⟩
theorem rowsL_ext {cols cols' : List Col} : ∀ {n : Nat}, (∀ q, q < n → rowL cols q = rowL cols' q) → rowsL cols n = rowsL cols' n
  | 0, _ => rfl
  | n + 1, h => by rw [rowsL, rowsL, rowsL_ext (fun q hq => h q (by omega)), h n (by omega)]
theorem insF_push {α : Type} (f : Nat → α) (n : Nat) (x : α) {q : Nat} (h : q < n + 1) : upF f n x q = insF f n x q := by
  unfold insF
  rcases Nat.lt_or_ge q n with h1 | h1
  · rw [show Nat.blt q n = true from by simpa [Nat.blt_eq] using h1, cond_true]
    unfold upF
    cases hb : Nat.beq q n with
    | false => rfl
    | true => have := Nat.eq_of_beq_eq_true hb; omega
  · have : q = n := by omega
    subst this
    unfold upF
    rw [Nat.beq_refl q]
    cases hb : Nat.blt q q with
    | false => rfl
    | true => have : q + 1 ≤ q := Nat.le_of_ble_eq_true hb; omega
theorem ins_push (r : RT) (c s k e : Int) (n b : ByteArray) : rowsL (r.push c s k e n b).cols (r.n + 1) = rowsL (r.ins r.n c s k e n b).cols (r.n + 1) :=
  rowsL_ext fun q hq => by simp only [rowL, RT.cols, RT.push, RT.ins, List.map_cons, List.map_nil, Col.at, insF_push _ _ _ hq]
theorem insa_tab (r : RT) (hn : r.n ≤ 3) (c s k e : Int) (n b : ByteArray) : FnOK Tryz.prog 29 [.slc 0 0 r.n r.n 6, .v (.int .i64 ((r.n : Nat) : Int)), .slc 1 0 1 1 6] [.tab true r.n r.cols, .cells true [.v (.int .i64 c), .v (.int .i64 s), .v (.int .i64 k), .v (.int .i64 e), .v (.string n), .v (.string b)]]
    (fun s' t' m' => s' = .slc 0 0 (r.n + 1) (r.n + 1) 6 ∧ t' = [.tab true (r.n + 1) (r.ins r.n c s k e n b).cols, .cells true [.v (.int .i64 c), .v (.int .i64 s), .v (.int .i64 k), .v (.int .i64 e), .v (.string n), .v (.string b)]] ∧ m' = [0]) := by
  refine FnOK.retell (FnOK.mono (K := fun s' t' m' => s' = .slc 0 0 (r.n + 1) (r.n + 1) 6 ∧ t' = [.tab true (r.n + 1) (r.push c s k e n b).cols, .cells true [.v (.int .i64 c), .v (.int .i64 s), .v (.int .i64 k), .v (.int .i64 e), .v (.string n), .v (.string b)]] ∧ m' = [0]) (FnOK.of_vf mixed .nil Tryz.func29 (I := noI) ((insa_vf r c s k e n b _).mpr ?_)) fun s' t' m' h => ?_)
  · refine ob_mk (by simp) (bc_mk (fun _ => ?_) (fun h => by simp at h))
    refine ob_mk rfl (ob_mk (by simp) (ob_mk (decide_eq_true (by omega)) ?_))
    exact ⟨rfl, rfl, rfl⟩
  · obtain ⟨rfl, rfl, rfl⟩ := h
    refine ⟨_, .tab true (r.n + 1) (r.ins r.n c s k e n b).cols, (r.n + 1) * 6, rfl, rfl, fun N ρ σ pre hp => ?_, rfl, rfl, rfl⟩
    simp only [Pre] at hp ⊢
    have := rowsL_len (r.push c s k e n b).cols (r.n + 1)
    rw [hp, List.take_of_length_le (by rw [this]; exact Nat.le_refl _), ins_push]
def rqV (c s k e : Int) (n b : ByteArray) : List Value := [.int .i64 c, .int .i64 s, .int .i64 k, .int .i64 e, .string n, .string b]
theorem ins_rows (r : RT) (c s k e : Int) (n b : ByteArray) : ∀ m i, m ≤ 3 → i < m → (rowsL r.cols m).take (i * 6) ++ rqV c s k e n b ++ (rowsL r.cols m).drop (i * 6) = rowsL (r.ins i c s k e n b).cols (m + 1)
  | 1, 0, _, _ => rfl
  | 2, 0, _, _ => rfl
  | 2, 1, _, _ => rfl
  | 3, 0, _, _ => rfl
  | 3, 1, _, _ => rfl
  | 3, 2, _, _ => rfl
theorem row_one (r : RT) : ∀ m, ∀ v ∈ rowsL r.cols m, v.oneCell' = true
  | 0, v, h => by cases h
  | m + 1, v, h => by
    rw [rowsL, List.mem_append] at h
    rcases h with h | h
    · exact row_one r m v h
    · simp only [rowL, RT.cols, List.map_cons, List.map_nil, Col.at, List.mem_cons, List.not_mem_nil, or_false] at h
      rcases h with rfl | rfl | rfl | rfl | rfl | rfl <;> rfl
theorem rq_one (c s k e : Int) (n b : ByteArray) : ∀ v ∈ rqV c s k e n b, v.oneCell' = true := by
  intro v h
  simp only [rqV, List.mem_cons, List.not_mem_nil, or_false] at h
  rcases h with rfl | rfl | rfl | rfl | rfl | rfl <;> rfl
theorem insertS_ok : SpecOK Tryz.prog 29 insertS := by
  refine ⟨enters_of Tryz.func29 rfl rfl, fun args blks K h => ?_⟩
  dsimp only at h
  split at h
  case h_2 => exact h.elim
  rename_i m m' z
  obtain ⟨r, i, c, s, k, e, n, b, rfl, rfl, h⟩ := h
  rw [ob_iff] at h
  simp only [Bool.and_eq_true, decide_eq_true_eq, Nat.beq_eq] at h
  obtain ⟨⟨⟨rfl, rfl⟩, hi, hn⟩, hK⟩ := h
  rcases Nat.lt_or_ge i r.n with hlt | hge
  case inr =>
    have : i = r.n := by omega
    subst this
    exact (insa_tab r hn c s k e n b).mono fun s' t' m' ⟨h1, h2, h3⟩ => by subst h1; subst h2; subst h3; exact hK
  intro B ρ σ us w hr hT
  obtain ⟨a0, l, h1, ha, a1, l2, h3, hb, a2, o, h5, hd, h7⟩ := id hr
  have hu : us = #[a0, a1, a2] := by
    cases us; simp_all [RelL]
  simp only [Rel] at ha hb hd
  obtain ⟨-, -, ha⟩ := ha
  obtain ⟨-, -, hd⟩ := hd
  rcases ha with ⟨_, h0, _⟩ | ⟨oo, C, rfl, hC1, hC2, hC3⟩
  · omega
  rcases hd with ⟨_, h0, _⟩ | ⟨o1, C1, rfl, hD1, hD2, hD3⟩
  · omega
  have e0 : oo = 0 := by omega
  have e1 : o1 = 0 := by omega
  subst e0
  subst e1
  rcases hT.lies 0 _ rfl rfl with ⟨h0, _⟩ | ⟨pre, hp, hl⟩
  · omega
  rcases hT.lies 1 _ rfl rfl with ⟨h0, _⟩ | ⟨pre1, hp1, hl1⟩
  · omega
  simp only [Pre] at hp hp1
  have hp1 : pre1 = rqV c s k e n b := (pvoL_rel _ _ pre1 rfl).1 hp1
  subst hp
  subst hp1
  have hlen : (rowsL r.cols r.n).length = r.n * 6 := rowsL_len r.cols r.n
  by_cases hC : C = r.n
  · subst hC
    rw [hu, hb]
    refine (Ins.ins_grow (ρ 0) (σ 0).2 r.n i (ρ 1) (σ 1).2 C1 (rowsL r.cols r.n) (rqV c s k e n b) w hlt (by omega) hlen rfl (fun j v hj => hl.cell hj) (fun j v hj => hl1.cell hj) (row_one r _) (rq_one c s k e n b)).mono ?_
    rintro ex w' ⟨G, ROW, d, rfl, hG, hG63, hRs, hRt, rfl⟩
    have hT2 := (hT.realloc (i := 0) (b' := .tab true (r.n + 1) (r.ins i c s k e n b).cols) rfl ROW 32 ((r.n + 1) * 6) (by simp only [Pre]; rw [hRt]; exact ins_rows r c s k e n b r.n i hn hlt)).drew d
    refine ⟨.slc 0 0 (r.n + 1) (r.n + 1) 6, _, _, [0], _, _, rfl, ?_, ?_, fun j hj hm => ?_, hT2, ?_⟩
    · simp only [Rel]
      refine ⟨Nat.zero_lt_succ _, Nat.le_refl _, .inr ⟨0, G, ?_, hG, .inl rfl, ?_⟩⟩
      · rw [upd_same, upd_same]
      · rw [upd_same]; simp only [hRs]; omega
    · exact Nat.le_refl _
    · have : j ≠ 0 := by simpa using hm
      exact ⟨upd_ne _ _ this, upd_ne _ _ this⟩
    · exact hK
  · obtain ⟨x, hx, hl'⟩ := hl.more 6 (by rw [hlen]; omega)
    have hx6 : ∀ N, RelL N ρ σ (List.replicate 6 .unk) x := fun N => by
      match x, hx with
      | [x0, x1, x2, x3, x4, x5], _ => exact ⟨_, _, rfl, trivial, _, _, rfl, trivial, _, _, rfl, trivial, _, _, rfl, trivial, _, _, rfl, trivial, _, _, rfl, trivial, rfl⟩
    obtain ⟨N, L, hN, hL, hF⟩ : ∃ (N : Nat) (L : List SV), r.n = N ∧ RelL 2 ρ σ L (rowsL r.cols N) ∧ FnOK Tryz.prog 29 [.slc 0 0 N (N + 1) 6, .v (.int .i64 ((i : Nat) : Int)), .slc 1 0 1 1 6] [.cells true (L ++ List.replicate 6 .unk), .cells true [.v (.int .i64 c), .v (.int .i64 s), .v (.int .i64 k), .v (.int .i64 e), .v (.string n), .v (.string b)]] (insQ r i c s k e n b) := by
      have hc : (r.n = 1 ∧ i = 0) ∨ (r.n = 2 ∧ i = 0) ∨ (r.n = 2 ∧ i = 1) ∨ (r.n = 3 ∧ i = 0) ∨ (r.n = 3 ∧ i = 1) ∨ (r.n = 3 ∧ i = 2) := by omega
      rcases hc with ⟨h1, rfl⟩ | ⟨h1, rfl⟩ | ⟨h1, rfl⟩ | ⟨h1, rfl⟩ | ⟨h1, rfl⟩ | ⟨h1, rfl⟩
      · exact ⟨1, [(.v (.int .i64 (r.c 0))), (.v (.int .i64 (r.s 0))), (.v (.int .i64 (r.k 0))), (.v (.int .i64 (r.e 0))), (.v (.string (r.nm 0))), (.v (.string (r.b 0)))], h1, (pvoL_rel _ _ _ rfl).2 rfl, insb10_tab r h1 c s k e n b⟩
      · exact ⟨2, [(.v (.int .i64 (r.c 0))), (.v (.int .i64 (r.s 0))), (.v (.int .i64 (r.k 0))), (.v (.int .i64 (r.e 0))), (.v (.string (r.nm 0))), (.v (.string (r.b 0))), (.v (.int .i64 (r.c 1))), (.v (.int .i64 (r.s 1))), (.v (.int .i64 (r.k 1))), (.v (.int .i64 (r.e 1))), (.v (.string (r.nm 1))), (.v (.string (r.b 1)))], h1, (pvoL_rel _ _ _ rfl).2 rfl, insb20_tab r h1 c s k e n b⟩
      · exact ⟨2, [(.v (.int .i64 (r.c 0))), (.v (.int .i64 (r.s 0))), (.v (.int .i64 (r.k 0))), (.v (.int .i64 (r.e 0))), (.v (.string (r.nm 0))), (.v (.string (r.b 0))), (.v (.int .i64 (r.c 1))), (.v (.int .i64 (r.s 1))), (.v (.int .i64 (r.k 1))), (.v (.int .i64 (r.e 1))), (.v (.string (r.nm 1))), (.v (.string (r.b 1)))], h1, (pvoL_rel _ _ _ rfl).2 rfl, insb21_tab r h1 c s k e n b⟩
      · exact ⟨3, [(.v (.int .i64 (r.c 0))), (.v (.int .i64 (r.s 0))), (.v (.int .i64 (r.k 0))), (.v (.int .i64 (r.e 0))), (.v (.string (r.nm 0))), (.v (.string (r.b 0))), (.v (.int .i64 (r.c 1))), (.v (.int .i64 (r.s 1))), (.v (.int .i64 (r.k 1))), (.v (.int .i64 (r.e 1))), (.v (.string (r.nm 1))), (.v (.string (r.b 1))), (.v (.int .i64 (r.c 2))), (.v (.int .i64 (r.s 2))), (.v (.int .i64 (r.k 2))), (.v (.int .i64 (r.e 2))), (.v (.string (r.nm 2))), (.v (.string (r.b 2)))], h1, (pvoL_rel _ _ _ rfl).2 rfl, insb30_tab r h1 c s k e n b⟩
      · exact ⟨3, [(.v (.int .i64 (r.c 0))), (.v (.int .i64 (r.s 0))), (.v (.int .i64 (r.k 0))), (.v (.int .i64 (r.e 0))), (.v (.string (r.nm 0))), (.v (.string (r.b 0))), (.v (.int .i64 (r.c 1))), (.v (.int .i64 (r.s 1))), (.v (.int .i64 (r.k 1))), (.v (.int .i64 (r.e 1))), (.v (.string (r.nm 1))), (.v (.string (r.b 1))), (.v (.int .i64 (r.c 2))), (.v (.int .i64 (r.s 2))), (.v (.int .i64 (r.k 2))), (.v (.int .i64 (r.e 2))), (.v (.string (r.nm 2))), (.v (.string (r.b 2)))], h1, (pvoL_rel _ _ _ rfl).2 rfl, insb31_tab r h1 c s k e n b⟩
      · exact ⟨3, [(.v (.int .i64 (r.c 0))), (.v (.int .i64 (r.s 0))), (.v (.int .i64 (r.k 0))), (.v (.int .i64 (r.e 0))), (.v (.string (r.nm 0))), (.v (.string (r.b 0))), (.v (.int .i64 (r.c 1))), (.v (.int .i64 (r.s 1))), (.v (.int .i64 (r.k 1))), (.v (.int .i64 (r.e 1))), (.v (.string (r.nm 1))), (.v (.string (r.b 1))), (.v (.int .i64 (r.c 2))), (.v (.int .i64 (r.s 2))), (.v (.int .i64 (r.k 2))), (.v (.int .i64 (r.e 2))), (.v (.string (r.nm 2))), (.v (.string (r.b 2)))], h1, (pvoL_rel _ _ _ rfl).2 rfl, insb32_tab r h1 c s k e n b⟩
    subst hN
    have hT3 := hT.reB (i := 0) (b' := .cells true (L ++ List.replicate 6 .unk)) rfl rfl rfl (.inr ⟨_, by simp only [Pre]; exact hL.append (hx6 2), hl'⟩)
    refine (hF B ρ σ us w ?_ hT3).mono ?_
    · rw [hu]
      refine ⟨_, _, rfl, ?_, _, _, rfl, hb, _, _, rfl, ?_, rfl⟩
      · simp only [Rel]
        exact ⟨Nat.zero_lt_succ _, Nat.le_succ _, .inr ⟨0, C, rfl, by omega, .inl rfl, hC3⟩⟩
      · simp only [Rel]
        exact ⟨by simp, Nat.le_refl _, .inr ⟨0, C1, rfl, hD1, .inl rfl, hD3⟩⟩
    · rintro ex w' ⟨s', v', t', m', ρ', σ', g1, g2, g3, g4, g5, g6, g7, g8⟩
      subst g6; subst g7; subst g8
      exact ⟨_, _, _, [0], ρ', σ', g1, g2, g3, fun j hj _ => g4 j hj (by simp), g5, hK⟩

end Go.Proofs.YtmnenigmkfnciaaGreatDoor.Sx
/- pool: Put, of a request that may be. No condition. -/
namespace Go.Proofs.YtmnenigmkfnciaaGreatDoor.Sx
open Go Go.Proofs
set_option maxRecDepth 100000
set_option linter.unusedSimpArgs false
set_option linter.unusedVariables false

/-- A client is in the map if it has rows, or had. -/
def hasQ (R : Nat → RT) (X : Nat → Nat) : Int → Bool := fun c => Nat.blt 0 (R c.toNat).n || Nat.blt 0 (X c.toNat)
def c16L : List Int := [0, 1, 2, 3, 4, 5, 6, 7, 8, 9, 10, 11, 12, 13, 14, 15]
def gPool (R : Nat → RT) : Value → SV := fun v => match v with
  | .int .i64 c => .slc (3 + c.toNat) 0 (R c.toNat).n (R c.toNat).n 6
  | _ => .unk
def hasX (X : Nat → Nat) : Int → Bool := fun c => Nat.blt 0 (X c.toNat)
def gNext (X : Nat → Nat) : Value → SV := fun v => match v with
  | .int .i64 c => .v (.int .i64 (X c.toNat : Nat))
  | _ => .unk
/-- The pool's memory: rows of each client; the least number that each may have. -/
def poolT (R : Nat → RT) (X : Nat → Nat) (N : Int) : List Blk := [.cells true [.mp 1, .mp 2, .v (.int .i64 N)], .map true false (.c .i64 c16L (hasQ R X)) (gPool R), .map true true (.c .i64 c16L (hasX X)) (gNext X),
  .tab true (R 0).n (R 0).cols, .tab true (R 1).n (R 1).cols, .tab true (R 2).n (R 2).cols, .tab true (R 3).n (R 3).cols, .tab true (R 4).n (R 4).cols, .tab true (R 5).n (R 5).cols, .tab true (R 6).n (R 6).cols, .tab true (R 7).n (R 7).cols, .tab true (R 8).n (R 8).cols, .tab true (R 9).n (R 9).cols, .tab true (R 10).n (R 10).cols, .tab true (R 11).n (R 11).cols, .tab true (R 12).n (R 12).cols, .tab true (R 13).n (R 13).cols, .tab true (R 14).n (R 14).cols, .tab true (R 15).n (R 15).cols]
def updR (R : Nat → RT) (c : Nat) (r : RT) : Nat → RT := fun q => cond (Nat.beq q c) r (R q)
/-- What a put comes to, at one client. -/
def putP (R : Nat → RT) (X : Nat → Nat) (N : Int) (c : Nat) (s k e : Int) (n b : ByteArray) (K : SV → List Blk → List Nat → Prop) : Prop :=
  (4 ≤ (R c).n ∨ 32 ≤ N → K (.v (.int .i64 7)) (poolT R X N) []) ∧
  (¬(4 ≤ (R c).n ∨ 32 ≤ N) → (∃ i, placeR (R c) s i true) ∨ s < (X c : Nat) → K (.v (.int .i64 8)) (poolT R X N) []) ∧
  (¬(4 ≤ (R c).n ∨ 32 ≤ N) → ((X c : Nat) : Int) ≤ s → ∀ i, placeR (R c) s i false → K (.v (.int .i64 0)) (poolT (updR R c ((R c).ins i (c : Nat) s k e n b)) X (N + 1)) [3 + c])
def poolOK (R : Nat → RT) (X : Nat → Nat) (N : Int) : Prop := (∀ q, q < 16 → risR (R q)) ∧ -1000000 ≤ N ∧ N ≤ 1000000
theorem colsR (r : RT) (n : Nat) : colsEq n r.cols r.cols := by
  simp [colsEq, colEq, RT.cols]
theorem tab_le (w : Bool) (r : RT) : blkLe (.tab w r.n r.cols) (.tab w r.n r.cols) := ⟨id, Nat.le_refl _, colsR r _⟩
theorem mem16 {y : Int} (h : y ∈ c16L) : 0 ≤ y ∧ y < 16 := by
  simp only [c16L, List.mem_cons, List.not_mem_nil, or_false] at h
  omega
theorem next_le (X : Nat → Nat) (y : Value) (hy : y ∈ (KS.c .i64 c16L (hasX X)).vals) : (true = true → plainS (gNext X y) = true) ∧ SV.le (gNext X y) (gNext X y) := by
  obtain ⟨z, hz, rfl⟩ := List.mem_map.1 hy
  exact ⟨fun _ => rfl, by simp [gNext, SV.le, veq]⟩
theorem pool_le (R : Nat → RT) (X : Nat → Nat) (N : Int) (ks : KS) (g : Value → SV) (x : List Blk) (hks : ksEq ks (.c .i64 c16L (hasQ R X))) (hg : ∀ y ∈ c16L, SV.le (g (.int .i64 y)) (gPool R (.int .i64 y))) :
    tblLe (.cells true [.mp 1, .mp 2, .v (.int .i64 N)] :: .map true false ks g :: .map true true (.c .i64 c16L (hasX X)) (gNext X) :: ([.tab true (R 0).n (R 0).cols, .tab true (R 1).n (R 1).cols, .tab true (R 2).n (R 2).cols, .tab true (R 3).n (R 3).cols, .tab true (R 4).n (R 4).cols, .tab true (R 5).n (R 5).cols, .tab true (R 6).n (R 6).cols, .tab true (R 7).n (R 7).cols, .tab true (R 8).n (R 8).cols, .tab true (R 9).n (R 9).cols, .tab true (R 10).n (R 10).cols, .tab true (R 11).n (R 11).cols, .tab true (R 12).n (R 12).cols, .tab true (R 13).n (R 13).cols, .tab true (R 14).n (R 14).cols, .tab true (R 15).n (R 15).cols] ++ x)) (poolT R X N) := by
  refine ⟨⟨id, by simp [preLe, SV.le, veq]⟩, ⟨id, hks, fun y hy => ⟨fun h => Bool.noConfusion h, ?_⟩⟩, ⟨id, ⟨rfl, rfl, fun _ _ => rfl⟩, fun y hy => next_le X y hy⟩, tab_le _ _, tab_le _ _, tab_le _ _, tab_le _ _, tab_le _ _, tab_le _ _, tab_le _ _, tab_le _ _, tab_le _ _, tab_le _ _, tab_le _ _, tab_le _ _, tab_le _ _, tab_le _ _, tab_le _ _, tab_le _ _, by cases x <;> trivial⟩
  obtain ⟨z, hz, rfl⟩ := List.mem_map.1 hy
  exact hg z hz
theorem pool_same (R : Nat → RT) (X : Nat → Nat) (N : Int) (x : List Blk) : tblLe (poolT R X N ++ x) (poolT R X N) :=
  pool_le R X N _ _ x ⟨rfl, rfl, fun _ _ => rfl⟩ fun y hy => ⟨rfl, rfl, rfl, Nat.le_refl _, Nat.le_refl _, rfl⟩
theorem updR_ne (R : Nat → RT) {c q : Nat} (r : RT) (h : q ≠ c) : updR R c r q = R q := by
  unfold updR
  cases hb : Nat.beq q c with
  | false => rfl
  | true => exact absurd (Nat.eq_of_beq_eq_true hb) h
theorem updR_eq (R : Nat → RT) (c : Nat) (r : RT) : updR R c r c = r := by
  unfold updR; rw [Nat.beq_refl]; rfl
theorem chg_ks (R : Nat → RT) (X : Nat → Nat) (c : Nat) (r : RT) (hr : 0 < r.n) : ksEq (.c .i64 c16L fun y => (y == (c : Int)) || hasQ R X y) (.c .i64 c16L (hasQ (updR R c r) X)) := by
  refine ⟨rfl, rfl, fun y hy => ?_⟩
  have := mem16 hy
  unfold hasQ
  by_cases h : y = (c : Int)
  · subst h
    rw [show ((c : Int)).toNat = c from by omega, updR_eq, show Nat.blt 0 r.n = true from by simpa [Nat.blt_eq] using hr]
    simp
  · rw [updR_ne R r (show y.toNat ≠ c by omega)]
    simp [h]
theorem chg_g (R : Nat → RT) (c : Nat) (r : RT) : ∀ y ∈ c16L, SV.le (mixS (keq (.int .i64 (c : Int)) (.int .i64 y)) (.slc (3 + c) 0 r.n r.n 6) (SV.purge [3 + c] (gPool R (.int .i64 y)))) (gPool (updR R c r) (.int .i64 y)) := by
  intro y hy
  have := mem16 hy
  by_cases h : y = (c : Int)
  · subst h
    rw [show keq (.int .i64 (c : Int)) (.int .i64 (c : Int)) = true from keq_self (.i .i64 (c : Int)), mixS_t]
    simp only [gPool]
    rw [show ((c : Int)).toNat = c from by omega, updR_eq]
    exact ⟨rfl, rfl, rfl, Nat.le_refl _, Nat.le_refl _, rfl⟩
  · have hk : keq (.int .i64 (c : Int)) (.int .i64 y) = false := by
      cases hb : keq (.int .i64 (c : Int)) (.int .i64 y) with
      | false => rfl
      | true => have := keq_iff hb; simp at this; omega
    rw [hk]
    simp only [gPool]
    rw [updR_ne R r (show y.toNat ≠ c by omega)]
    have hm : (SV.slc (3 + y.toNat) 0 (R y.toNat).n (R y.toNat).n 6).refsAny [3 + c] = false := by
      cases hb : (SV.slc (3 + y.toNat) 0 (R y.toNat).n (R y.toNat).n 6).refsAny [3 + c] with
      | false => rfl
      | true =>
        have := (mem_iff _ _).1 hb
        simp at this
        omega
    unfold SV.purge
    rw [hm]
    exact ⟨rfl, rfl, rfl, Nat.le_refl _, Nat.le_refl _, rfl⟩
theorem has_len (R : Nat → RT) (X : Nat → Nat) (c : Nat) (h : hasI c16L (c : Int) = true) : (bif hasK (.c .i64 c16L (hasQ R X)) (.i .i64 (c : Int)) then (R c).n else 0) = (R c).n := by
  show (bif (hasI c16L (c : Int) && (Nat.blt 0 (R c).n || Nat.blt 0 (X c))) then (R c).n else 0) = (R c).n
  rw [h]
  generalize Nat.blt 0 (X c) = b
  cases hn : (R c).n with
  | zero => cases b <;> rfl
  | succ n => rfl
def putK (R : Nat → RT) (X : Nat → Nat) (N : Int) (K : SV → List Blk → List Nat → Prop) : SV → List Blk → List Nat → Prop := fun s t m => ∃ s' t' m', SV.le s s' ∧ tblLe t t' ∧ (s'.lt t'.length && tblLt t'.length t' && Nat.ble (poolT R X N).length t'.length && subB m m') = true ∧ K s' t' m'
theorem putK_same {R : Nat → RT} {X : Nat → Nat} {N : Int} {K : SV → List Blk → List Nat → Prop} (x : List Blk) {z : Int} (h : K (.v (.int .i64 z)) (poolT R X N) []) : putK R X N K (.v (.int .i64 z)) (poolT R X N ++ x) [] :=
  ⟨.v (.int .i64 z), poolT R X N, [], by simp [SV.le, veq], pool_same R X N x, by rfl, h⟩
theorem putK_new {R R' : Nat → RT} {X : Nat → Nat} {N : Int} {K : SV → List Blk → List Nat → Prop} {m : List Nat} {N' : Int} {ks : KS} {g : Value → SV} (x : List Blk) {z : Int} (hks : ksEq ks (.c .i64 c16L (hasQ R' X))) (hg : ∀ y ∈ c16L, SV.le (g (.int .i64 y)) (gPool R' (.int .i64 y))) (hm : subB m m = true) (h : K (.v (.int .i64 z)) (poolT R' X N') m) :
    putK R X N K (.v (.int .i64 z)) (.cells true [.mp 1, .mp 2, .v (.int .i64 N')] :: .map true false ks g :: .map true true (.c .i64 c16L (hasX X)) (gNext X) :: ([.tab true (R' 0).n (R' 0).cols, .tab true (R' 1).n (R' 1).cols, .tab true (R' 2).n (R' 2).cols, .tab true (R' 3).n (R' 3).cols, .tab true (R' 4).n (R' 4).cols, .tab true (R' 5).n (R' 5).cols, .tab true (R' 6).n (R' 6).cols, .tab true (R' 7).n (R' 7).cols, .tab true (R' 8).n (R' 8).cols, .tab true (R' 9).n (R' 9).cols, .tab true (R' 10).n (R' 10).cols, .tab true (R' 11).n (R' 11).cols, .tab true (R' 12).n (R' 12).cols, .tab true (R' 13).n (R' 13).cols, .tab true (R' 14).n (R' 14).cols, .tab true (R' 15).n (R' 15).cols] ++ x)) m :=
  ⟨.v (.int .i64 z), poolT R' X N', m, by simp [SV.le, veq], pool_le R' X N' ks g x hks hg, by rw [hm]; rfl, h⟩
/-- The pool's memory with one client's rows told in other words. -/
def poolS (R : Nat → RT) (X : Nat → Nat) (N : Int) (c : Nat) (r : RT) : List Blk := (poolT R X N).set (3 + c) (.tab true r.n r.cols)
/-- .. where a request was inserted. -/
def poolI (R : Nat → RT) (X : Nat → Nat) (N : Int) (c : Nat) (n : Nat) (r : RT) : List Blk := (((poolT R X N).set 0 (.cells true [.mp 1, .mp 2, .v (.int .i64 (IntKind.i64.wrap (N + 1)))])).set 1
  (.map true false (insK (.c .i64 c16L (hasQ R X)) (.i .i64 (c : Int))) (fun v => mixS (keq (.int .i64 (c : Int)) v) (.slc (3 + c) 0 (n + 1) (n + 1) 6) (SV.purge [3 + c] (gPool R v))))).set (3 + c) (.tab true (n + 1) r.cols)
/-- How many rows a client has, as the map tells. -/
def lenC (R : Nat → RT) (X : Nat → Nat) (c : Nat) : Nat := bif hasK (.c .i64 c16L (hasQ R X)) (.i .i64 (c : Int)) then (R c).n else 0
def nextC (X : Nat → Nat) (c : Nat) : Int := bif hasK (.c .i64 c16L (hasX X)) (.i .i64 (c : Int)) then (X c : Nat) else 0
def putF (R : Nat → RT) (X : Nat → Nat) (N : Int) (c : Nat) (s k e : Int) (n b : ByteArray) (K : SV → List Blk → List Nat → Prop) : Prop :=
  ob (decide (n.size + b.size ≤ 9223372036854775807)) (bc (bif false then true else (if reqOK (c : Int) s k e n b = true then (0 : Int) else 1) != 0) (K (.v (.int .i64 1)) (poolT R X N ++ [.cells true (rq (c : Int) s k e n b)]) [])
    (bc (decide ((lenC R X c : Int) ≥ 4)) (K (.v (.int .i64 7)) (poolT R X N ++ [.cells true (rq (c : Int) s k e n b)]) [])
    (bc (bif false then true else decide (N ≥ 32)) (K (.v (.int .i64 7)) (poolT R X N ++ [.cells true (rq (c : Int) s k e n b)]) [])
    (∃ r : RT, [Blk.tab true (R c).n (R c).cols] = [Blk.tab true r.n r.cols] ∧ risR r ∧ ob ((Nat.beq r.n (lenC R X c) && Nat.beq r.n (lenC R X c)) && (decide (r.n ≤ 1000000) && (decide (0 ≤ s) && decide (s < 4294967296))))
      (∀ (i : Nat) (f : Bool), placeR r s i f → bc f (K (.v (.int .i64 8)) (poolS R X N c r ++ [.cells true (rq (c : Int) s k e n b)]) [])
        (bc (bif false then true else decide (s < nextC X c)) (K (.v (.int .i64 8)) (poolS R X N c r ++ [.cells true (rq (c : Int) s k e n b)]) [])
        (∃ (r1 : RT) (i1 : Nat) (c1 s1 k1 e1 : Int) (n1 b1 : ByteArray), [Blk.tab true r.n r.cols, .cells true (rq (c : Int) s k e n b)] = [Blk.tab true r1.n r1.cols, .cells true (rq c1 s1 k1 e1 n1 b1)] ∧ ((i : Nat) : Int) = (i1 : Nat) ∧
          ob ((Nat.beq r1.n (lenC R X c) && Nat.beq r1.n (lenC R X c)) && (decide (i1 ≤ r1.n) && decide (r1.n ≤ 3))) (ob true (ob true (K (.v (.int .i64 0)) (poolI R X N c r1.n (r1.ins i1 c1 s1 k1 e1 n1 b1) ++ [.cells true (rq (c : Int) s k e n b), .cells true (rq c1 s1 k1 e1 n1 b1)]) [3 + c]))))))))))
theorem pput_vf (R : Nat → RT) (X : Nat → Nat) (N s k e : Int) (n b : ByteArray) (K : SV → List Blk → List Nat → Prop) : ∀ c : Nat, c < 16 → vf Tryz.prog [(27, pcheckS), (28, findS), (29, insertS)] noI Tryz.f7 [.ptr 0 0, .agg (rq (c : Int) s k e n b)] (poolT R X N) K = putF R X N c s k e n b K
  | 0, _ => by kernel_rfl
  | 1, _ => by kernel_rfl
  | 2, _ => by kernel_rfl
  | 3, _ => by kernel_rfl
  | 4, _ => by kernel_rfl
  | 5, _ => by kernel_rfl
  | 6, _ => by kernel_rfl
  | 7, _ => by kernel_rfl
  | 8, _ => by kernel_rfl
  | 9, _ => by kernel_rfl
  | 10, _ => by kernel_rfl
  | 11, _ => by kernel_rfl
  | 12, _ => by kernel_rfl
  | 13, _ => by kernel_rfl
  | 14, _ => by kernel_rfl
  | 15, _ => by kernel_rfl
  | n + 16, h => absurd h (by omega)
theorem poolS_self (R : Nat → RT) (X : Nat → Nat) (N : Int) : ∀ c : Nat, c < 16 → poolS R X N c (R c) = poolT R X N
  | 0, _ => rfl
  | 1, _ => rfl
  | 2, _ => rfl
  | 3, _ => rfl
  | 4, _ => rfl
  | 5, _ => rfl
  | 6, _ => rfl
  | 7, _ => rfl
  | 8, _ => rfl
  | 9, _ => rfl
  | 10, _ => rfl
  | 11, _ => rfl
  | 12, _ => rfl
  | 13, _ => rfl
  | 14, _ => rfl
  | 15, _ => rfl
  | n + 16, h => absurd h (by omega)
theorem has_c : ∀ c : Nat, c < 16 → hasI c16L (c : Int) = true
  | 0, _ => rfl
  | 1, _ => rfl
  | 2, _ => rfl
  | 3, _ => rfl
  | 4, _ => rfl
  | 5, _ => rfl
  | 6, _ => rfl
  | 7, _ => rfl
  | 8, _ => rfl
  | 9, _ => rfl
  | 10, _ => rfl
  | 11, _ => rfl
  | 12, _ => rfl
  | 13, _ => rfl
  | 14, _ => rfl
  | 15, _ => rfl
  | n + 16, h => absurd h (by omega)
theorem next_val (X : Nat → Nat) (c : Nat) (h : hasI c16L (c : Int) = true) : nextC X c = (X c : Nat) := by
  unfold nextC
  show (bif (hasI c16L (c : Int) && Nat.blt 0 (X c)) then ((X c : Nat) : Int) else 0) = (X c : Nat)
  rw [h]
  cases hn : X c <;> rfl
theorem putK_ins (R : Nat → RT) (X : Nat → Nat) (N s k e : Int) (n b : ByteArray) (K : SV → List Blk → List Nat → Prop) (i : Nat) (x : List Blk) (hw : IntKind.i64.wrap (N + 1) = N + 1) : ∀ c : Nat, c < 16 → K (.v (.int .i64 0)) (poolT (updR R c ((R c).ins i (c : Int) s k e n b)) X (N + 1)) [3 + c] →
    putK R X N K (.v (.int .i64 0)) (poolI R X N c (R c).n ((R c).ins i (c : Int) s k e n b) ++ x) [3 + c]
  | 0, _, h => by unfold poolI; rw [hw]; exact putK_new (R' := updR R 0 ((R 0).ins i 0 s k e n b)) x (chg_ks R X 0 ((R 0).ins i 0 s k e n b) (Nat.succ_pos _)) (chg_g R 0 ((R 0).ins i 0 s k e n b)) rfl h
  | 1, _, h => by unfold poolI; rw [hw]; exact putK_new (R' := updR R 1 ((R 1).ins i 1 s k e n b)) x (chg_ks R X 1 ((R 1).ins i 1 s k e n b) (Nat.succ_pos _)) (chg_g R 1 ((R 1).ins i 1 s k e n b)) rfl h
  | 2, _, h => by unfold poolI; rw [hw]; exact putK_new (R' := updR R 2 ((R 2).ins i 2 s k e n b)) x (chg_ks R X 2 ((R 2).ins i 2 s k e n b) (Nat.succ_pos _)) (chg_g R 2 ((R 2).ins i 2 s k e n b)) rfl h
  | 3, _, h => by unfold poolI; rw [hw]; exact putK_new (R' := updR R 3 ((R 3).ins i 3 s k e n b)) x (chg_ks R X 3 ((R 3).ins i 3 s k e n b) (Nat.succ_pos _)) (chg_g R 3 ((R 3).ins i 3 s k e n b)) rfl h
  | 4, _, h => by unfold poolI; rw [hw]; exact putK_new (R' := updR R 4 ((R 4).ins i 4 s k e n b)) x (chg_ks R X 4 ((R 4).ins i 4 s k e n b) (Nat.succ_pos _)) (chg_g R 4 ((R 4).ins i 4 s k e n b)) rfl h
  | 5, _, h => by unfold poolI; rw [hw]; exact putK_new (R' := updR R 5 ((R 5).ins i 5 s k e n b)) x (chg_ks R X 5 ((R 5).ins i 5 s k e n b) (Nat.succ_pos _)) (chg_g R 5 ((R 5).ins i 5 s k e n b)) rfl h
  | 6, _, h => by unfold poolI; rw [hw]; exact putK_new (R' := updR R 6 ((R 6).ins i 6 s k e n b)) x (chg_ks R X 6 ((R 6).ins i 6 s k e n b) (Nat.succ_pos _)) (chg_g R 6 ((R 6).ins i 6 s k e n b)) rfl h
  | 7, _, h => by unfold poolI; rw [hw]; exact putK_new (R' := updR R 7 ((R 7).ins i 7 s k e n b)) x (chg_ks R X 7 ((R 7).ins i 7 s k e n b) (Nat.succ_pos _)) (chg_g R 7 ((R 7).ins i 7 s k e n b)) rfl h
  | 8, _, h => by unfold poolI; rw [hw]; exact putK_new (R' := updR R 8 ((R 8).ins i 8 s k e n b)) x (chg_ks R X 8 ((R 8).ins i 8 s k e n b) (Nat.succ_pos _)) (chg_g R 8 ((R 8).ins i 8 s k e n b)) rfl h
  | 9, _, h => by unfold poolI; rw [hw]; exact putK_new (R' := updR R 9 ((R 9).ins i 9 s k e n b)) x (chg_ks R X 9 ((R 9).ins i 9 s k e n b) (Nat.succ_pos _)) (chg_g R 9 ((R 9).ins i 9 s k e n b)) rfl h
  | 10, _, h => by unfold poolI; rw [hw]; exact putK_new (R' := updR R 10 ((R 10).ins i 10 s k e n b)) x (chg_ks R X 10 ((R 10).ins i 10 s k e n b) (Nat.succ_pos _)) (chg_g R 10 ((R 10).ins i 10 s k e n b)) rfl h
  | 11, _, h => by unfold poolI; rw [hw]; exact putK_new (R' := updR R 11 ((R 11).ins i 11 s k e n b)) x (chg_ks R X 11 ((R 11).ins i 11 s k e n b) (Nat.succ_pos _)) (chg_g R 11 ((R 11).ins i 11 s k e n b)) rfl h
  | 12, _, h => by unfold poolI; rw [hw]; exact putK_new (R' := updR R 12 ((R 12).ins i 12 s k e n b)) x (chg_ks R X 12 ((R 12).ins i 12 s k e n b) (Nat.succ_pos _)) (chg_g R 12 ((R 12).ins i 12 s k e n b)) rfl h
  | 13, _, h => by unfold poolI; rw [hw]; exact putK_new (R' := updR R 13 ((R 13).ins i 13 s k e n b)) x (chg_ks R X 13 ((R 13).ins i 13 s k e n b) (Nat.succ_pos _)) (chg_g R 13 ((R 13).ins i 13 s k e n b)) rfl h
  | 14, _, h => by unfold poolI; rw [hw]; exact putK_new (R' := updR R 14 ((R 14).ins i 14 s k e n b)) x (chg_ks R X 14 ((R 14).ins i 14 s k e n b) (Nat.succ_pos _)) (chg_g R 14 ((R 14).ins i 14 s k e n b)) rfl h
  | 15, _, h => by unfold poolI; rw [hw]; exact putK_new (R' := updR R 15 ((R 15).ins i 15 s k e n b)) x (chg_ks R X 15 ((R 15).ins i 15 s k e n b) (Nat.succ_pos _)) (chg_g R 15 ((R 15).ins i 15 s k e n b)) rfl h
  | n + 16, h, _ => absurd h (by omega)
theorem pput_ok (R : Nat → RT) (X : Nat → Nat) (N s k e : Int) (n b : ByteArray) (K : SV → List Blk → List Nat → Prop) {c : Nat} (hc : c < 16) (hP : poolOK R X N) (hok : reqOK (c : Int) s k e n b = true) (hK : putP R X N c s k e n b K) : vf Tryz.prog [(27, pcheckS), (28, findS), (29, insertS)] noI Tryz.f7 [.ptr 0 0, .agg (rq (c : Int) s k e n b)] (poolT R X N) (putK R X N K) := by
  rw [pput_vf R X N s k e n b _ c hc]
  obtain ⟨hR, hN0, hN1⟩ := hP
  obtain ⟨hK7, hK8, hK0⟩ := hK
  have hok' := hok
  rw [reqOK_def] at hok'
  simp only [Bool.and_eq_true, decide_eq_true_eq] at hok'
  obtain ⟨⟨_, _⟩, ⟨hs0, hs1⟩, hcmd⟩ := hok'
  obtain ⟨hc1, hc2, _⟩ := cmdOK_size hcmd
  have hl : lenC R X c = (R c).n := has_len R X c (has_c c hc)
  unfold putF
  rw [hl, hok]
  refine ob_mk (decide_eq_true (by omega)) (bc_mk (fun h => by simp at h) fun _ => bc_mk (fun h => ?_) fun h4 => bc_mk (fun h => ?_) fun h32 => ?_)
  · exact putK_same _ (hK7 (.inl (by have := of_decide_eq_true h; omega)))
  · exact putK_same _ (hK7 (.inr (by simpa using h)))
  have h4 := of_decide_eq_false h4
  have h32 : ¬ 32 ≤ N := by simpa using h32
  have hno : ¬(4 ≤ (R c).n ∨ 32 ≤ N) := by omega
  refine ⟨R c, rfl, hR c hc, ob_mk (by simp; omega) fun i f hp => bc_mk (fun hf => ?_) fun hf => bc_mk (fun h => ?_) fun hnx => ?_⟩
  · subst hf
    rw [poolS_self R X N c hc]
    exact putK_same _ (hK8 hno (.inl ⟨i, hp⟩))
  · rw [poolS_self R X N c hc]
    exact putK_same _ (hK8 hno (.inr (by rw [cond_false, decide_eq_true_eq, next_val X c (has_c c hc)] at h; exact h)))
  · subst hf
    rw [cond_false, decide_eq_false_iff_not, next_val X c (has_c c hc)] at hnx
    refine ⟨R c, i, c, s, k, e, n, b, rfl, rfl, ob_mk (by simp [hp.1]; omega) (ob_mk rfl (ob_mk rfl ?_))⟩
    exact putK_ins R X N s k e n b K i _ (wrap_i64 _ (by omega) (by omega)) c hc (hK0 hno (by omega) i hp)
def poolPutS : Spec := .m fun args blks K => match args with
  | [.ptr 0 0, .agg [.v (.int .i64 c), .v (.int .i64 s), .v (.int .i64 k), .v (.int .i64 e), .v (.string n), .v (.string b)]] => ∃ (R : Nat → RT) (X : Nat → Nat) (N : Int), blks = poolT R X N ∧ poolOK R X N ∧ ob (reqOK c s k e n b) (putP R X N c.toNat s k e n b K)
  | _ => False
theorem poolPutS_ok : SpecOK Tryz.prog 7 poolPutS := by
  refine m_le mixed (.cons pcheckS_ok (.cons findS_ok (.cons insertS_ok .nil))) Tryz.func7 rfl rfl fun args blks K h => ?_
  split at h
  case h_2 => exact h.elim
  rename_i c s k e n b
  obtain ⟨R, X, N, rfl, hP, h⟩ := h
  rw [ob_iff] at h
  obtain ⟨hok, hK⟩ := h
  have hok' := hok
  rw [reqOK_def] at hok'
  simp only [Bool.and_eq_true, decide_eq_true_eq] at hok'
  obtain ⟨⟨hc0, hc1⟩, _⟩ := hok'
  obtain ⟨d, rfl⟩ : ∃ d : Nat, c = (d : Int) := ⟨c.toNat, by omega⟩
  rw [show ((d : Int)).toNat = d from by omega] at hK
  exact ⟨noI, pput_ok R X N s k e n b K (by omega) hP hok hK⟩

end Go.Proofs.YtmnenigmkfnciaaGreatDoor.Sx
/- pool: Put, of a request that may not be. No condition. -/
namespace Go.Proofs.YtmnenigmkfnciaaGreatDoor.Sx
open Go Go.Proofs
set_option maxRecDepth 100000
set_option linter.unusedSimpArgs false
set_option linter.unusedVariables false

def pcheckB : Spec := .q fun args blks K => match args, blks with
  | [.agg [.v (.int .i64 c), .v (.int .i64 s), .v (.int .i64 k), .v (.int .i64 e), .v (.string n), .v (.string b)]], [] => ob (decide (n.size + b.size ≤ 9223372036854775807) && !reqOK c s k e n b) (K (.v (.int .i64 1)))
  | _, _ => False
theorem pcheckB_ok : SpecOK Tryz.prog 27 pcheckB := weaken pcheckS_ok fun args blks K h => by
  split at h
  case h_2 => exact h.elim
  rw [ob_iff, Bool.and_eq_true, Bool.not_eq_true'] at h
  obtain ⟨⟨h1, h2⟩, hK⟩ := h
  refine ob_mk h1 ?_
  rw [h2]
  exact hK
theorem pput0_vf (R : Nat → RT) (X : Nat → Nat) (N c s k e : Int) (n b : ByteArray) (K : SV → List Blk → List Nat → Prop) : vf Tryz.prog [(27, pcheckB)] (noI) Tryz.f7 [.ptr 0 0, .agg (rq c s k e n b)] (poolT R X N) K =
  (ob (decide (n.size + b.size ≤ (9223372036854775807 : Nat)) && !reqOK c s k e n b) (K (SV.v (Value.int IntKind.i64 (1 : Int))) [Blk.cells true [SV.mp (1 : Nat), SV.mp (2 : Nat), SV.v (Value.int IntKind.i64 N)], Blk.map true false (KS.c IntKind.i64 [(0 : Int), (1 : Int), (2 : Int), (3 : Int), (4 : Int), (5 : Int), (6 : Int), (7 : Int), (8 : Int), (9 : Int), (10 : Int), (11 : Int), (12 : Int), (13 : Int), (14 : Int), (15 : Int)] (hasQ R X)) (gPool R), Blk.map true true (KS.c IntKind.i64 [(0 : Int), (1 : Int), (2 : Int), (3 : Int), (4 : Int), (5 : Int), (6 : Int), (7 : Int), (8 : Int), (9 : Int), (10 : Int), (11 : Int), (12 : Int), (13 : Int), (14 : Int), (15 : Int)] (hasX X)) (gNext X), Blk.tab true (R (0 : Nat)).n [Col.i IntKind.i64 (R (0 : Nat)).c, Col.i IntKind.i64 (R (0 : Nat)).s, Col.i IntKind.i64 (R (0 : Nat)).k, Col.i IntKind.i64 (R (0 : Nat)).e, Col.s (R (0 : Nat)).nm, Col.s (R (0 : Nat)).b], Blk.tab true (R (1 : Nat)).n [Col.i IntKind.i64 (R (1 : Nat)).c, Col.i IntKind.i64 (R (1 : Nat)).s, Col.i IntKind.i64 (R (1 : Nat)).k, Col.i IntKind.i64 (R (1 : Nat)).e, Col.s (R (1 : Nat)).nm, Col.s (R (1 : Nat)).b], Blk.tab true (R (2 : Nat)).n [Col.i IntKind.i64 (R (2 : Nat)).c, Col.i IntKind.i64 (R (2 : Nat)).s, Col.i IntKind.i64 (R (2 : Nat)).k, Col.i IntKind.i64 (R (2 : Nat)).e, Col.s (R (2 : Nat)).nm, Col.s (R (2 : Nat)).b], Blk.tab true (R (3 : Nat)).n [Col.i IntKind.i64 (R (3 : Nat)).c, Col.i IntKind.i64 (R (3 : Nat)).s, Col.i IntKind.i64 (R (3 : Nat)).k, Col.i IntKind.i64 (R (3 : Nat)).e, Col.s (R (3 : Nat)).nm, Col.s (R (3 : Nat)).b], Blk.tab true (R (4 : Nat)).n [Col.i IntKind.i64 (R (4 : Nat)).c, Col.i IntKind.i64 (R (4 : Nat)).s, Col.i IntKind.i64 (R (4 : Nat)).k, Col.i IntKind.i64 (R (4 : Nat)).e, Col.s (R (4 : Nat)).nm, Col.s (R (4 : Nat)).b], Blk.tab true (R (5 : Nat)).n [Col.i IntKind.i64 (R (5 : Nat)).c, Col.i IntKind.i64 (R (5 : Nat)).s, Col.i IntKind.i64 (R (5 : Nat)).k, Col.i IntKind.i64 (R (5 : Nat)).e, Col.s (R (5 : Nat)).nm, Col.s (R (5 : Nat)).b], Blk.tab true (R (6 : Nat)).n [Col.i IntKind.i64 (R (6 : Nat)).c, Col.i IntKind.i64 (R (6 : Nat)).s, Col.i IntKind.i64 (R (6 : Nat)).k, Col.i IntKind.i64 (R (6 : Nat)).e, Col.s (R (6 : Nat)).nm, Col.s (R (6 : Nat)).b], Blk.tab true (R (7 : Nat)).n [Col.i IntKind.i64 (R (7 : Nat)).c, Col.i IntKind.i64 (R (7 : Nat)).s, Col.i IntKind.i64 (R (7 : Nat)).k, Col.i IntKind.i64 (R (7 : Nat)).e, Col.s (R (7 : Nat)).nm, Col.s (R (7 : Nat)).b], Blk.tab true (R (8 : Nat)).n [Col.i IntKind.i64 (R (8 : Nat)).c, Col.i IntKind.i64 (R (8 : Nat)).s, Col.i IntKind.i64 (R (8 : Nat)).k, Col.i IntKind.i64 (R (8 : Nat)).e, Col.s (R (8 : Nat)).nm, Col.s (R (8 : Nat)).b], Blk.tab true (R (9 : Nat)).n [Col.i IntKind.i64 (R (9 : Nat)).c, Col.i IntKind.i64 (R (9 : Nat)).s, Col.i IntKind.i64 (R (9 : Nat)).k, Col.i IntKind.i64 (R (9 : Nat)).e, Col.s (R (9 : Nat)).nm, Col.s (R (9 : Nat)).b], Blk.tab true (R (10 : Nat)).n [Col.i IntKind.i64 (R (10 : Nat)).c, Col.i IntKind.i64 (R (10 : Nat)).s, Col.i IntKind.i64 (R (10 : Nat)).k, Col.i IntKind.i64 (R (10 : Nat)).e, Col.s (R (10 : Nat)).nm, Col.s (R (10 : Nat)).b], Blk.tab true (R (11 : Nat)).n [Col.i IntKind.i64 (R (11 : Nat)).c, Col.i IntKind.i64 (R (11 : Nat)).s, Col.i IntKind.i64 (R (11 : Nat)).k, Col.i IntKind.i64 (R (11 : Nat)).e, Col.s (R (11 : Nat)).nm, Col.s (R (11 : Nat)).b], Blk.tab true (R (12 : Nat)).n [Col.i IntKind.i64 (R (12 : Nat)).c, Col.i IntKind.i64 (R (12 : Nat)).s, Col.i IntKind.i64 (R (12 : Nat)).k, Col.i IntKind.i64 (R (12 : Nat)).e, Col.s (R (12 : Nat)).nm, Col.s (R (12 : Nat)).b], Blk.tab true (R (13 : Nat)).n [Col.i IntKind.i64 (R (13 : Nat)).c, Col.i IntKind.i64 (R (13 : Nat)).s, Col.i IntKind.i64 (R (13 : Nat)).k, Col.i IntKind.i64 (R (13 : Nat)).e, Col.s (R (13 : Nat)).nm, Col.s (R (13 : Nat)).b], Blk.tab true (R (14 : Nat)).n [Col.i IntKind.i64 (R (14 : Nat)).c, Col.i IntKind.i64 (R (14 : Nat)).s, Col.i IntKind.i64 (R (14 : Nat)).k, Col.i IntKind.i64 (R (14 : Nat)).e, Col.s (R (14 : Nat)).nm, Col.s (R (14 : Nat)).b], Blk.tab true (R (15 : Nat)).n [Col.i IntKind.i64 (R (15 : Nat)).c, Col.i IntKind.i64 (R (15 : Nat)).s, Col.i IntKind.i64 (R (15 : Nat)).k, Col.i IntKind.i64 (R (15 : Nat)).e, Col.s (R (15 : Nat)).nm, Col.s (R (15 : Nat)).b], Blk.cells true [SV.v (Value.int IntKind.i64 c), SV.v (Value.int IntKind.i64 s), SV.v (Value.int IntKind.i64 k), SV.v (Value.int IntKind.i64 e), SV.v (Value.string n), SV.v (Value.string b)]] [])) := by kernel_rfl
/-- What a put comes to, of whatever request. -/
def putS : Spec := .m fun args blks K => match args with
  | [.ptr 0 0, .agg [.v (.int .i64 c), .v (.int .i64 s), .v (.int .i64 k), .v (.int .i64 e), .v (.string n), .v (.string b)]] => ∃ (R : Nat → RT) (X : Nat → Nat) (N : Int), blks = poolT R X N ∧ poolOK R X N ∧ ob (decide (n.size + b.size ≤ 9223372036854775807))
      ((reqOK c s k e n b = false → K (.v (.int .i64 1)) (poolT R X N) []) ∧ (reqOK c s k e n b = true → putP R X N c.toNat s k e n b K))
  | _ => False
theorem putS_ok : SpecOK Tryz.prog 7 putS := by
  refine ⟨poolPutS_ok.1, fun args blks K h => ?_⟩
  dsimp only at h
  split at h
  case h_2 => exact h.elim
  rename_i c s k e n b
  obtain ⟨R, X, N, rfl, hP, h⟩ := h
  rw [ob_iff] at h
  obtain ⟨hs, h0, h1⟩ := h
  cases hr : reqOK c s k e n b with
  | true => exact poolPutS_ok.2 _ _ K ⟨R, X, N, rfl, hP, ob_mk hr (h1 hr)⟩
  | false =>
    refine (m_le (g := fun args blks K => args = [.ptr 0 0, .agg (rq c s k e n b)] ∧ blks = poolT R X N ∧ K (.v (.int .i64 1)) (poolT R X N) []) mixed (.cons pcheckB_ok .nil) Tryz.func7 rfl rfl fun args blks K h => ?_).2 _ _ K ⟨rfl, rfl, h0 hr⟩
    obtain ⟨rfl, rfl, hK⟩ := h
    refine ⟨noI, (pput0_vf R X N c s k e n b _).mpr (ob_mk (by rw [hs, hr]; rfl) ?_)⟩
    exact putK_same (R := R) (X := X) (N := N) [.cells true (rq c s k e n b)] hK

end Go.Proofs.YtmnenigmkfnciaaGreatDoor.Sx
/- pool: slices.Delete of the first Request of at most four. Printed by gen_del1.py, but for the plain lines. No condition. -/
namespace Go.Proofs.YtmnenigmkfnciaaGreatDoor.Sx
open Go Go.Proofs
set_option maxRecDepth 100000
set_option linter.unusedSimpArgs false
set_option linter.unusedVariables false

/-- Requests but for the first. -/
def RT.del (r : RT) : RT := ⟨r.n - 1, fun i => r.c (i + 1), fun i => r.s (i + 1), fun i => r.k (i + 1), fun i => r.e (i + 1), fun i => r.nm (i + 1), fun i => r.b (i + 1)⟩
def delQ (r : RT) : SV → List Blk → List Nat → Prop := fun s' t' m' => s' = .slc 0 0 (r.n - 1) r.n 6 ∧ t' = [.tab true (r.n - 1) r.del.cols] ∧ m' = []
theorem del1_vf (r : RT) (K : SV → List Blk → List Nat → Prop) : vf Tryz.prog [] (noI) Tryz.f36 [.slc 0 0 1 1 6, .v (.int .i64 0), .v (.int .i64 1)] [.cells true [.v (.int .i64 (r.c 0)), .v (.int .i64 (r.s 0)), .v (.int .i64 (r.k 0)), .v (.int .i64 (r.e 0)), .v (.string (r.nm 0)), .v (.string (r.b 0))]] K =
  (ob true (ob true (ob true (ob true (ob true (ob true (ob true (ob true (K (SV.slc (0 : Nat) (0 : Nat) (0 : Nat) (1 : Nat) (6 : Nat)) [Blk.cells true [SV.v (Value.int IntKind.i64 (0 : Int)), SV.v (Value.int IntKind.i64 (0 : Int)), SV.v (Value.int IntKind.i64 (0 : Int)), SV.v (Value.int IntKind.i64 (0 : Int)), SV.v (Value.string (ByteArray.mk (Array.mk []))), SV.v (Value.string (ByteArray.mk (Array.mk [])))]] []))))))))) := by kernel_rfl
theorem del2_vf (r : RT) (K : SV → List Blk → List Nat → Prop) : vf Tryz.prog [] (noI) Tryz.f36 [.slc 0 0 2 2 6, .v (.int .i64 0), .v (.int .i64 1)] [.cells true [.v (.int .i64 (r.c 0)), .v (.int .i64 (r.s 0)), .v (.int .i64 (r.k 0)), .v (.int .i64 (r.e 0)), .v (.string (r.nm 0)), .v (.string (r.b 0)), .v (.int .i64 (r.c 1)), .v (.int .i64 (r.s 1)), .v (.int .i64 (r.k 1)), .v (.int .i64 (r.e 1)), .v (.string (r.nm 1)), .v (.string (r.b 1))]] K =
  (ob true (ob true (ob true (ob true (ob true (ob true (ob true (ob true (K (SV.slc (0 : Nat) (0 : Nat) (1 : Nat) (2 : Nat) (6 : Nat)) [Blk.cells true [SV.v (Value.int IntKind.i64 (r.c (1 : Nat))), SV.v (Value.int IntKind.i64 (r.s (1 : Nat))), SV.v (Value.int IntKind.i64 (r.k (1 : Nat))), SV.v (Value.int IntKind.i64 (r.e (1 : Nat))), SV.v (Value.string (r.nm (1 : Nat))), SV.v (Value.string (r.b (1 : Nat))), SV.v (Value.int IntKind.i64 (0 : Int)), SV.v (Value.int IntKind.i64 (0 : Int)), SV.v (Value.int IntKind.i64 (0 : Int)), SV.v (Value.int IntKind.i64 (0 : Int)), SV.v (Value.string (ByteArray.mk (Array.mk []))), SV.v (Value.string (ByteArray.mk (Array.mk [])))]] []))))))))) := by kernel_rfl
theorem del3_vf (r : RT) (K : SV → List Blk → List Nat → Prop) : vf Tryz.prog [] (noI) Tryz.f36 [.slc 0 0 3 3 6, .v (.int .i64 0), .v (.int .i64 1)] [.cells true [.v (.int .i64 (r.c 0)), .v (.int .i64 (r.s 0)), .v (.int .i64 (r.k 0)), .v (.int .i64 (r.e 0)), .v (.string (r.nm 0)), .v (.string (r.b 0)), .v (.int .i64 (r.c 1)), .v (.int .i64 (r.s 1)), .v (.int .i64 (r.k 1)), .v (.int .i64 (r.e 1)), .v (.string (r.nm 1)), .v (.string (r.b 1)), .v (.int .i64 (r.c 2)), .v (.int .i64 (r.s 2)), .v (.int .i64 (r.k 2)), .v (.int .i64 (r.e 2)), .v (.string (r.nm 2)), .v (.string (r.b 2))]] K =
  (ob true (ob true (ob true (ob true (ob true (ob true (ob true (ob true (K (SV.slc (0 : Nat) (0 : Nat) (2 : Nat) (3 : Nat) (6 : Nat)) [Blk.cells true [SV.v (Value.int IntKind.i64 (r.c (1 : Nat))), SV.v (Value.int IntKind.i64 (r.s (1 : Nat))), SV.v (Value.int IntKind.i64 (r.k (1 : Nat))), SV.v (Value.int IntKind.i64 (r.e (1 : Nat))), SV.v (Value.string (r.nm (1 : Nat))), SV.v (Value.string (r.b (1 : Nat))), SV.v (Value.int IntKind.i64 (r.c (2 : Nat))), SV.v (Value.int IntKind.i64 (r.s (2 : Nat))), SV.v (Value.int IntKind.i64 (r.k (2 : Nat))), SV.v (Value.int IntKind.i64 (r.e (2 : Nat))), SV.v (Value.string (r.nm (2 : Nat))), SV.v (Value.string (r.b (2 : Nat))), SV.v (Value.int IntKind.i64 (0 : Int)), SV.v (Value.int IntKind.i64 (0 : Int)), SV.v (Value.int IntKind.i64 (0 : Int)), SV.v (Value.int IntKind.i64 (0 : Int)), SV.v (Value.string (ByteArray.mk (Array.mk []))), SV.v (Value.string (ByteArray.mk (Array.mk [])))]] []))))))))) := by kernel_rfl
theorem del4_vf (r : RT) (K : SV → List Blk → List Nat → Prop) : vf Tryz.prog [] (noI) Tryz.f36 [.slc 0 0 4 4 6, .v (.int .i64 0), .v (.int .i64 1)] [.cells true [.v (.int .i64 (r.c 0)), .v (.int .i64 (r.s 0)), .v (.int .i64 (r.k 0)), .v (.int .i64 (r.e 0)), .v (.string (r.nm 0)), .v (.string (r.b 0)), .v (.int .i64 (r.c 1)), .v (.int .i64 (r.s 1)), .v (.int .i64 (r.k 1)), .v (.int .i64 (r.e 1)), .v (.string (r.nm 1)), .v (.string (r.b 1)), .v (.int .i64 (r.c 2)), .v (.int .i64 (r.s 2)), .v (.int .i64 (r.k 2)), .v (.int .i64 (r.e 2)), .v (.string (r.nm 2)), .v (.string (r.b 2)), .v (.int .i64 (r.c 3)), .v (.int .i64 (r.s 3)), .v (.int .i64 (r.k 3)), .v (.int .i64 (r.e 3)), .v (.string (r.nm 3)), .v (.string (r.b 3))]] K =
  (ob true (ob true (ob true (ob true (ob true (ob true (ob true (ob true (K (SV.slc (0 : Nat) (0 : Nat) (3 : Nat) (4 : Nat) (6 : Nat)) [Blk.cells true [SV.v (Value.int IntKind.i64 (r.c (1 : Nat))), SV.v (Value.int IntKind.i64 (r.s (1 : Nat))), SV.v (Value.int IntKind.i64 (r.k (1 : Nat))), SV.v (Value.int IntKind.i64 (r.e (1 : Nat))), SV.v (Value.string (r.nm (1 : Nat))), SV.v (Value.string (r.b (1 : Nat))), SV.v (Value.int IntKind.i64 (r.c (2 : Nat))), SV.v (Value.int IntKind.i64 (r.s (2 : Nat))), SV.v (Value.int IntKind.i64 (r.k (2 : Nat))), SV.v (Value.int IntKind.i64 (r.e (2 : Nat))), SV.v (Value.string (r.nm (2 : Nat))), SV.v (Value.string (r.b (2 : Nat))), SV.v (Value.int IntKind.i64 (r.c (3 : Nat))), SV.v (Value.int IntKind.i64 (r.s (3 : Nat))), SV.v (Value.int IntKind.i64 (r.k (3 : Nat))), SV.v (Value.int IntKind.i64 (r.e (3 : Nat))), SV.v (Value.string (r.nm (3 : Nat))), SV.v (Value.string (r.b (3 : Nat))), SV.v (Value.int IntKind.i64 (0 : Int)), SV.v (Value.int IntKind.i64 (0 : Int)), SV.v (Value.int IntKind.i64 (0 : Int)), SV.v (Value.int IntKind.i64 (0 : Int)), SV.v (Value.string (ByteArray.mk (Array.mk []))), SV.v (Value.string (ByteArray.mk (Array.mk [])))]] []))))))))) := by kernel_rfl
theorem del1_tab (r : RT) (hn : r.n = 1) : FnOK Tryz.prog 36 [.slc 0 0 1 1 6, .v (.int .i64 0), .v (.int .i64 1)] [.cells true [.v (.int .i64 (r.c 0)), .v (.int .i64 (r.s 0)), .v (.int .i64 (r.k 0)), .v (.int .i64 (r.e 0)), .v (.string (r.nm 0)), .v (.string (r.b 0))]] (delQ r) := by
  refine FnOK.retell (FnOK.of_vf mixed .nil Tryz.func36 (I := noI) ((del1_vf r _).mpr ?_))
  repeat (with_reducible refine ob_true ?_)
  refine ⟨_, .tab true 0 r.del.cols, 0, rfl, rfl, fun N ρ σ pre hp => pre_v (by rfl) (by rfl) pre hp, ?_⟩
  unfold delQ
  rw [hn]
  exact ⟨rfl, rfl, rfl⟩
theorem del2_tab (r : RT) (hn : r.n = 2) : FnOK Tryz.prog 36 [.slc 0 0 2 2 6, .v (.int .i64 0), .v (.int .i64 1)] [.cells true [.v (.int .i64 (r.c 0)), .v (.int .i64 (r.s 0)), .v (.int .i64 (r.k 0)), .v (.int .i64 (r.e 0)), .v (.string (r.nm 0)), .v (.string (r.b 0)), .v (.int .i64 (r.c 1)), .v (.int .i64 (r.s 1)), .v (.int .i64 (r.k 1)), .v (.int .i64 (r.e 1)), .v (.string (r.nm 1)), .v (.string (r.b 1))]] (delQ r) := by
  refine FnOK.retell (FnOK.of_vf mixed .nil Tryz.func36 (I := noI) ((del2_vf r _).mpr ?_))
  repeat (with_reducible refine ob_true ?_)
  refine ⟨_, .tab true 1 r.del.cols, 6, rfl, rfl, fun N ρ σ pre hp => pre_v (by rfl) (by rfl) pre hp, ?_⟩
  unfold delQ
  rw [hn]
  exact ⟨rfl, rfl, rfl⟩
theorem del3_tab (r : RT) (hn : r.n = 3) : FnOK Tryz.prog 36 [.slc 0 0 3 3 6, .v (.int .i64 0), .v (.int .i64 1)] [.cells true [.v (.int .i64 (r.c 0)), .v (.int .i64 (r.s 0)), .v (.int .i64 (r.k 0)), .v (.int .i64 (r.e 0)), .v (.string (r.nm 0)), .v (.string (r.b 0)), .v (.int .i64 (r.c 1)), .v (.int .i64 (r.s 1)), .v (.int .i64 (r.k 1)), .v (.int .i64 (r.e 1)), .v (.string (r.nm 1)), .v (.string (r.b 1)), .v (.int .i64 (r.c 2)), .v (.int .i64 (r.s 2)), .v (.int .i64 (r.k 2)), .v (.int .i64 (r.e 2)), .v (.string (r.nm 2)), .v (.string (r.b 2))]] (delQ r) := by
  refine FnOK.retell (FnOK.of_vf mixed .nil Tryz.func36 (I := noI) ((del3_vf r _).mpr ?_))
  repeat (with_reducible refine ob_true ?_)
  refine ⟨_, .tab true 2 r.del.cols, 12, rfl, rfl, fun N ρ σ pre hp => pre_v (by rfl) (by rfl) pre hp, ?_⟩
  unfold delQ
  rw [hn]
  exact ⟨rfl, rfl, rfl⟩
theorem del4_tab (r : RT) (hn : r.n = 4) : FnOK Tryz.prog 36 [.slc 0 0 4 4 6, .v (.int .i64 0), .v (.int .i64 1)] [.cells true [.v (.int .i64 (r.c 0)), .v (.int .i64 (r.s 0)), .v (.int .i64 (r.k 0)), .v (.int .i64 (r.e 0)), .v (.string (r.nm 0)), .v (.string (r.b 0)), .v (.int .i64 (r.c 1)), .v (.int .i64 (r.s 1)), .v (.int .i64 (r.k 1)), .v (.int .i64 (r.e 1)), .v (.string (r.nm 1)), .v (.string (r.b 1)), .v (.int .i64 (r.c 2)), .v (.int .i64 (r.s 2)), .v (.int .i64 (r.k 2)), .v (.int .i64 (r.e 2)), .v (.string (r.nm 2)), .v (.string (r.b 2)), .v (.int .i64 (r.c 3)), .v (.int .i64 (r.s 3)), .v (.int .i64 (r.k 3)), .v (.int .i64 (r.e 3)), .v (.string (r.nm 3)), .v (.string (r.b 3))]] (delQ r) := by
  refine FnOK.retell (FnOK.of_vf mixed .nil Tryz.func36 (I := noI) ((del4_vf r _).mpr ?_))
  repeat (with_reducible refine ob_true ?_)
  refine ⟨_, .tab true 3 r.del.cols, 18, rfl, rfl, fun N ρ σ pre hp => pre_v (by rfl) (by rfl) pre hp, ?_⟩
  unfold delQ
  rw [hn]
  exact ⟨rfl, rfl, rfl⟩
def deleteS : Spec := .m fun args blks K => match args with
  | [.slc 0 0 m m' 6, .v (.int .i64 0), .v (.int .i64 1)] => ∃ r : RT, blks = [.tab true r.n r.cols] ∧ ob ((Nat.beq r.n m && Nat.beq r.n m') && (decide (1 ≤ r.n) && decide (r.n ≤ 4))) (K (.slc 0 0 (r.n - 1) r.n 6) [.tab true (r.n - 1) r.del.cols] [])
  | _ => False
theorem deleteS_ok : SpecOK Tryz.prog 36 deleteS := by
  refine ⟨enters_of Tryz.func36 rfl rfl, fun args blks K h => ?_⟩
  dsimp only at h
  split at h
  case h_2 => exact h.elim
  rename_i m m'
  obtain ⟨r, rfl, h⟩ := h
  rw [ob_iff] at h
  simp only [Bool.and_eq_true, decide_eq_true_eq, Nat.beq_eq] at h
  obtain ⟨⟨⟨rfl, rfl⟩, h1, h4⟩, hK⟩ := h
  intro B ρ σ us w hr hT
  rcases hT.lies 0 _ rfl rfl with ⟨h0, h00⟩ | ⟨pre, hp, hl⟩
  · have := rowsL_len r.cols r.n
    have h5 : r.cols.length = 6 := rfl
    simp only [Blk.len, h5] at h00
    omega
  simp only [Pre] at hp
  subst hp
  obtain ⟨N, L, hN, hL, hF⟩ : ∃ (N : Nat) (L : List SV), r.n = N ∧ RelL 1 ρ σ L (rowsL r.cols N) ∧ FnOK Tryz.prog 36 [.slc 0 0 N N 6, .v (.int .i64 0), .v (.int .i64 1)] [.cells true L] (delQ r) := by
    have hc : r.n = 1 ∨ r.n = 2 ∨ r.n = 3 ∨ r.n = 4 := by omega
    rcases hc with h1 | h1 | h1 | h1
    · exact ⟨1, [.v (.int .i64 (r.c 0)), .v (.int .i64 (r.s 0)), .v (.int .i64 (r.k 0)), .v (.int .i64 (r.e 0)), .v (.string (r.nm 0)), .v (.string (r.b 0))], h1, (pvoL_rel _ _ _ rfl).2 rfl, del1_tab r h1⟩
    · exact ⟨2, [.v (.int .i64 (r.c 0)), .v (.int .i64 (r.s 0)), .v (.int .i64 (r.k 0)), .v (.int .i64 (r.e 0)), .v (.string (r.nm 0)), .v (.string (r.b 0)), .v (.int .i64 (r.c 1)), .v (.int .i64 (r.s 1)), .v (.int .i64 (r.k 1)), .v (.int .i64 (r.e 1)), .v (.string (r.nm 1)), .v (.string (r.b 1))], h1, (pvoL_rel _ _ _ rfl).2 rfl, del2_tab r h1⟩
    · exact ⟨3, [.v (.int .i64 (r.c 0)), .v (.int .i64 (r.s 0)), .v (.int .i64 (r.k 0)), .v (.int .i64 (r.e 0)), .v (.string (r.nm 0)), .v (.string (r.b 0)), .v (.int .i64 (r.c 1)), .v (.int .i64 (r.s 1)), .v (.int .i64 (r.k 1)), .v (.int .i64 (r.e 1)), .v (.string (r.nm 1)), .v (.string (r.b 1)), .v (.int .i64 (r.c 2)), .v (.int .i64 (r.s 2)), .v (.int .i64 (r.k 2)), .v (.int .i64 (r.e 2)), .v (.string (r.nm 2)), .v (.string (r.b 2))], h1, (pvoL_rel _ _ _ rfl).2 rfl, del3_tab r h1⟩
    · exact ⟨4, [.v (.int .i64 (r.c 0)), .v (.int .i64 (r.s 0)), .v (.int .i64 (r.k 0)), .v (.int .i64 (r.e 0)), .v (.string (r.nm 0)), .v (.string (r.b 0)), .v (.int .i64 (r.c 1)), .v (.int .i64 (r.s 1)), .v (.int .i64 (r.k 1)), .v (.int .i64 (r.e 1)), .v (.string (r.nm 1)), .v (.string (r.b 1)), .v (.int .i64 (r.c 2)), .v (.int .i64 (r.s 2)), .v (.int .i64 (r.k 2)), .v (.int .i64 (r.e 2)), .v (.string (r.nm 2)), .v (.string (r.b 2)), .v (.int .i64 (r.c 3)), .v (.int .i64 (r.s 3)), .v (.int .i64 (r.k 3)), .v (.int .i64 (r.e 3)), .v (.string (r.nm 3)), .v (.string (r.b 3))], h1, (pvoL_rel _ _ _ rfl).2 rfl, del4_tab r h1⟩
  subst hN
  have hT3 := hT.reB (i := 0) (b' := .cells true L) rfl rfl rfl (.inr ⟨_, by simp only [Pre]; exact hL, hl⟩)
  refine (hF B ρ σ us w hr hT3).mono ?_
  rintro ex w' ⟨s', v', t', m', ρ', σ', g1, g2, g3, g4, g5, g6, g7, g8⟩
  subst g6; subst g7; subst g8
  exact ⟨_, _, _, [], ρ', σ', g1, g2, g3, g4, g5, hK⟩

end Go.Proofs.YtmnenigmkfnciaaGreatDoor.Sx
