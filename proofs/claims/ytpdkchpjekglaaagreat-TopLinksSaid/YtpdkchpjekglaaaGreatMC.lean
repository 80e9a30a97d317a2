/- TopLinks: the window and the timer, by contract. No condition. -/
import Derived.Test.YtpdkchpjekglaaaGreatSx13
import Derived.Test.YtpdkchpjekglaaaGreatProg
import Derived.Test.YtpdkchpjekglaaaGreatBase
import Derived.Test.YtpdkchpjekglaaaGreatMA
import Derived.Test.YtpdkchpjekglaaaGreatTimO
/- Looking for a number. No condition. -/
namespace Go.Proofs.YtpdkchpjekglaaaGreat.Sx
open Go Go.Proofs
set_option maxRecDepth 100000
set_option linter.unusedSimpArgs false
set_option linter.unusedVariables false

theorem nan1_vf (a : Int) (K : SV → List Blk → List Nat → Prop) : vf Tryz.prog [] (noI) Tryz.f119 [.v (.int .i64 a)] [] K =
  (K (SV.v (Value.bool (a != a))) [] []) := by kernel_rfl
theorem nan2_vf (a : Int) (K : SV → List Blk → List Nat → Prop) : vf Tryz.prog [] (noI) Tryz.f84 [.v (.int .i64 a)] [] K =
  (K (SV.v (Value.bool (a != a))) [] []) := by kernel_rfl
def nanS : Spec := .q fun args blks K => match args, blks with
  | [.v (.int .i64 _)], [] => K (.v (.bool false))
  | _, _ => False
theorem nan1_ok : SpecOK Tryz.prog 119 nanS := by
  refine q_ro mixed .nil Tryz.func119 rfl rfl fun args blks K h => ?_
  split at h
  · exact ⟨_, rfl, h, rfl, noI, by rw [nan1_vf, bne_self_eq_false]⟩
  · exact h.elim
theorem nan2_ok : SpecOK Tryz.prog 84 nanS := by
  refine q_ro mixed .nil Tryz.func84 rfl rfl fun args blks K h => ?_
  split at h
  · exact ⟨_, rfl, h, rfl, noI, by rw [nan2_vf, bne_self_eq_false]⟩
  · exact h.elim
theorem less_vf (a b : Int) (K : SV → List Blk → List Nat → Prop) : vf Tryz.prog [(119, nanS)] (noI) Tryz.f83 [.v (.int .i64 a), .v (.int .i64 b)] [] K =
  (K (SV.v (Value.bool (bif false then true else decide (a < b)))) [] []) := by kernel_rfl
def lessS : Spec := .q fun args blks K => match args, blks with
  | [.v (.int .i64 a), .v (.int .i64 b)], [] => K (.v (.bool (decide (a < b))))
  | _, _ => False
theorem lessS_ok : SpecOK Tryz.prog 83 lessS := by
  refine q_ro mixed (.cons nan1_ok .nil) Tryz.func83 rfl rfl fun args blks K h => ?_
  split at h
  · exact ⟨_, rfl, h, rfl, noI, by rw [less_vf]; exact rfl⟩
  · exact h.elim
def bsSh (n : Nat) (l : List Int) (t : Int) (_ : Nat) (x : Nat × Nat) : St := ⟨[(8, inat x.2), (7, inat x.1), (6, .v (.int .i64 n)), (1, .v (.int .i64 t)), (0, .slc 0 0 n n 1)], 54, [.ints true .i64 l], [], 1⟩
def bsI (n : Nat) (l : List Int) (t : Int) : Nat → St → LK := fun _ _ => .gh (Nat × Nat) n (0, n) (fun k x => x.1 ≤ x.2 ∧ x.2 ≤ n ∧ x.2 - x.1 + k ≤ n) (bsSh n l t)
theorem bsrch_vf (n : Nat) (l : List Int) (t : Int) (K : SV → List Blk → List Nat → Prop) : vf Tryz.prog [(83, lessS), (84, nanS)] (bsI n l t) Tryz.f39 [.slc 0 0 n n 1, .v (.int .i64 t)] [.ints true .i64 l] K =
  ((((0 : Nat), n).fst ≤ ((0 : Nat), n).snd ∧ ((0 : Nat), n).snd ≤ n ∧ ((0 : Nat), n).snd - ((0 : Nat), n).fst + (0 : Nat) ≤ n) ∧ ob ((↑n : Int) == (↑((0 : Nat), n).snd : Int)) (ob true (ob ((↑n : Int) == (↑n : Int)) (ob (t == t) (ob true (ob true (ob (n.beq n) (ob (n.ble n) (ob (n.ble n) (ob true (ob true (ob (l == l) (∀ (k : Nat), k ≤ n → ∀ (x : Nat × Nat), x.fst ≤ x.snd ∧ x.snd ≤ n ∧ x.snd - x.fst + k ≤ n → bc (decide ((↑x.fst : Int) < (↑x.snd : Int))) (ob true (ob (decide ((0 : Int) ≤ IntKind.i64.wrap (ishr IntKind.u64 (IntKind.u64.wrap (IntKind.i64.wrap ((↑x.fst : Int) + (↑x.snd : Int)))) (1 : Int))) && decide (IntKind.i64.wrap (ishr IntKind.u64 (IntKind.u64.wrap (IntKind.i64.wrap ((↑x.fst : Int) + (↑x.snd : Int)))) (1 : Int)) < (↑n : Int))) (ob (decide ((0 : Nat) + (IntKind.i64.wrap (ishr IntKind.u64 (IntKind.u64.wrap (IntKind.i64.wrap ((↑x.fst : Int) + (↑x.snd : Int)))) (1 : Int))).toNat * (1 : Nat) + (0 : Nat) < l.length)) (bc (decide (l.getD ((0 : Nat) + (IntKind.i64.wrap (ishr IntKind.u64 (IntKind.u64.wrap (IntKind.i64.wrap ((↑x.fst : Int) + (↑x.snd : Int)))) (1 : Int))).toNat * (1 : Nat) + (0 : Nat)) (0 : Int) < t)) (k < n ∧ ∃ (x' : Nat × Nat), (x'.fst ≤ x'.snd ∧ x'.snd ≤ n ∧ x'.snd - x'.fst + (k + (1 : Nat)) ≤ n) ∧ ob ((↑x.snd : Int) == (↑x'.snd : Int)) (ob (IntKind.i64.wrap (IntKind.i64.wrap (ishr IntKind.u64 (IntKind.u64.wrap (IntKind.i64.wrap ((↑x.fst : Int) + (↑x.snd : Int)))) (1 : Int)) + (1 : Int)) == (↑x'.fst : Int)) (ob ((↑n : Int) == (↑n : Int)) (ob (t == t) (ob true (ob true (ob (n.beq n) (ob (n.ble n) (ob (n.ble n) (ob true (ob true (ob (l == l) True)))))))))))) (k < n ∧ ∃ (x' : Nat × Nat), (x'.fst ≤ x'.snd ∧ x'.snd ≤ n ∧ x'.snd - x'.fst + (k + (1 : Nat)) ≤ n) ∧ ob (IntKind.i64.wrap (ishr IntKind.u64 (IntKind.u64.wrap (IntKind.i64.wrap ((↑x.fst : Int) + (↑x.snd : Int)))) (1 : Int)) == (↑x'.snd : Int)) (ob ((↑x.fst : Int) == (↑x'.fst : Int)) (ob ((↑n : Int) == (↑n : Int)) (ob (t == t) (ob true (ob true (ob (n.beq n) (ob (n.ble n) (ob (n.ble n) (ob true (ob true (ob (l == l) True)))))))))))))))) (bc (decide ((↑x.fst : Int) < (↑n : Int))) (ob (true && decide ((↑x.fst : Int) < (↑n : Int))) (ob (decide ((0 : Nat) + (↑x.fst : Int).toNat * (1 : Nat) + (0 : Nat) < l.length)) (bc (l.getD ((0 : Nat) + (↑x.fst : Int).toNat * (1 : Nat) + (0 : Nat)) (0 : Int) == t) (K (SV.tup [SV.v (Value.int IntKind.i64 (↑x.fst : Int)), SV.v (Value.bool true)]) [Blk.ints true IntKind.i64 l] []) (ob (true && decide ((↑x.fst : Int) < (↑n : Int))) (ob (decide ((0 : Nat) + (↑x.fst : Int).toNat * (1 : Nat) + (0 : Nat) < l.length)) (K (SV.tup [SV.v (Value.int IntKind.i64 (↑x.fst : Int)), SV.v (Value.bool false)]) [Blk.ints true IntKind.i64 l] [])))))) (K (SV.tup [SV.v (Value.int IntKind.i64 (↑x.fst : Int)), SV.v (Value.bool false)]) [Blk.ints true IntKind.i64 l] []))))))))))))))) := by kernel_rfl
theorem half_nat (a b : Nat) (h : a + b < 1000000000) : IntKind.i64.wrap (ishr IntKind.u64 (IntKind.u64.wrap (IntKind.i64.wrap ((a : Int) + (b : Int)))) (1 : Int)) = (((a + b) / 2 : Nat) : Int) := by
  rw [wrap_i64 ((a : Int) + (b : Int)) (by omega) (by omega), wrap_u64' ((a : Int) + (b : Int)) (by omega) (by omega)]
  unfold ishr
  have e1 : min (1 : Int).toNat IntKind.u64.bits = 1 := by decide
  rw [e1, Int.fdiv_eq_ediv_of_nonneg _ (by decide)]
  have e2 : (2 : Int) ^ 1 = 2 := by decide
  rw [e2, wrap_i64 _ (by omega) (by omega)]
  omega
def bsrchS : Spec := .m fun args blks K => match args, blks with
  | [.slc 0 0 n n' 1, .v (.int .i64 t)], [.ints true .i64 l] => ob (Nat.beq n' n && Nat.beq l.length n && decide (n ≤ 1000000))
      (∀ (i : Int) (b : Bool), K (.tup [.v (.int .i64 i), .v (.bool b)]) [.ints true .i64 l] [])
  | _, _ => False
theorem bsrchS_ok : SpecOK Tryz.prog 39 bsrchS := by
  refine m_of mixed (.cons lessS_ok (.cons nan2_ok .nil)) Tryz.func39 rfl rfl fun args blks K h => ?_
  split at h
  case h_2 => exact h.elim
  rename_i n n' t l
  rw [ob_iff] at h
  simp only [Bool.and_eq_true, decide_eq_true_eq, Nat.beq_eq] at h
  obtain ⟨⟨⟨h1, h2⟩, hn⟩, hK⟩ := h
  obtain rfl := h1.symm
  refine ⟨bsI n l t, 1, (bsrch_vf n l t _).mpr ?_⟩
  refine ⟨⟨by omega, by omega, by dsimp only; omega⟩, ?_⟩
  (repeat (first | (with_reducible refine ob_true ?_) | refine ob_mk (by first | (with_reducible exact beq_self_eq_true _) | (with_reducible exact nbeq _) | (with_reducible exact nble _) | (with_reducible exact seq_rfl _) | (with_reducible assumption) | (simp only [decide_eq_true_eq, Bool.and_eq_true, beq_iff_eq, Bool.true_and, Bool.and_true, Nat.beq_eq, Nat.ble_eq, true_and, and_true, ge_iff_le, gt_iff_lt]; first | done | omega)) ?_))
  intro k hk ⟨i, j⟩ ⟨hx1, hx2, hx3⟩
  dsimp only at hx1 hx2 hx3 ⊢
  refine bc_mk (fun h1 => ?_) (fun h1 => ?_)
  · have h1 := of_decide_eq_true h1
    have e1 := half_nat i j (by omega)
    have e2 : IntKind.i64.wrap ((((i + j) / 2 : Nat) : Int) + 1) = (((i + j) / 2 + 1 : Nat) : Int) := by rw [wrap_i64 _ (by omega) (by omega)]; omega
    rw [e1, e2]
    generalize hh : (i + j) / 2 = m
    have hm1 : i ≤ m ∧ m < j := by omega
    clear hh e1 e2
    have e3 : 0 + ((m : Nat) : Int).toNat * 1 + 0 = m := by omega
    rw [e3]
    (repeat (first | (with_reducible refine ob_true ?_) | refine ob_mk (by first | (with_reducible exact beq_self_eq_true _) | (with_reducible exact nbeq _) | (with_reducible exact nble _) | (with_reducible exact seq_rfl _) | (with_reducible assumption) | (simp only [decide_eq_true_eq, Bool.and_eq_true, beq_iff_eq, Bool.true_and, Bool.and_true, Nat.beq_eq, Nat.ble_eq, true_and, and_true, ge_iff_le, gt_iff_lt]; first | done | omega)) ?_))
    refine bc_mk (fun h2 => ⟨by omega, (m + 1, j), ⟨by dsimp only; omega, by dsimp only; omega, by dsimp only; omega⟩, ?_⟩) (fun h2 => ⟨by omega, (i, m), ⟨by dsimp only; omega, by dsimp only; omega, by dsimp only; omega⟩, ?_⟩)
    · (repeat' (first | (with_reducible exact trivial) | (exact fun _ _ => rfl) | (exact fun _ _ => trivial) | (exact fun _ _ => ⟨rfl, rfl⟩) | (exact fun _ _ => ⟨rfl, rfl, rfl, trivial⟩) | (with_reducible refine ob_true ?_) | (with_reducible apply And.intro) | (with_reducible refine ob_mk ?hob ?_; case hob => exact (by first | (with_reducible exact beq_self_eq_true _) | (with_reducible exact nbeq _) | (with_reducible exact nble _) | (with_reducible exact seq_rfl _) | (with_reducible assumption) | (simp only [decide_eq_true_eq, Bool.and_eq_true, beq_iff_eq, Bool.true_and, Bool.and_true, Nat.beq_eq, Nat.ble_eq, true_and, and_true, ge_iff_le, gt_iff_lt]; first | done | omega)))))
    · (repeat' (first | (with_reducible exact trivial) | (exact fun _ _ => rfl) | (exact fun _ _ => trivial) | (exact fun _ _ => ⟨rfl, rfl⟩) | (exact fun _ _ => ⟨rfl, rfl, rfl, trivial⟩) | (with_reducible refine ob_true ?_) | (with_reducible apply And.intro) | (with_reducible refine ob_mk ?hob ?_; case hob => exact (by first | (with_reducible exact beq_self_eq_true _) | (with_reducible exact nbeq _) | (with_reducible exact nble _) | (with_reducible exact seq_rfl _) | (with_reducible assumption) | (simp only [decide_eq_true_eq, Bool.and_eq_true, beq_iff_eq, Bool.true_and, Bool.and_true, Nat.beq_eq, Nat.ble_eq, true_and, and_true, ge_iff_le, gt_iff_lt]; first | done | omega)))))
  · have h1 := of_decide_eq_false h1
    have hij : i = j := by omega
    subst hij
    have e3 : 0 + ((i : Nat) : Int).toNat * 1 + 0 = i := by omega
    rw [e3]
    refine bc_mk (fun h2 => ?_) (fun h2 => ⟨rfl, hK _ _⟩)
    have h2 := of_decide_eq_true h2
    (repeat (first | (with_reducible refine ob_true ?_) | refine ob_mk (by first | (with_reducible exact beq_self_eq_true _) | (with_reducible exact nbeq _) | (with_reducible exact nble _) | (with_reducible exact seq_rfl _) | (with_reducible assumption) | (simp only [decide_eq_true_eq, Bool.and_eq_true, beq_iff_eq, Bool.true_and, Bool.and_true, Nat.beq_eq, Nat.ble_eq, true_and, and_true, ge_iff_le, gt_iff_lt]; first | done | omega)) ?_))
    refine bc_mk (fun h3 => ⟨rfl, hK _ _⟩) (fun h3 => ?_)
    (repeat (first | (with_reducible refine ob_true ?_) | refine ob_mk (by first | (with_reducible exact beq_self_eq_true _) | (with_reducible exact nbeq _) | (with_reducible exact nble _) | (with_reducible exact seq_rfl _) | (with_reducible assumption) | (simp only [decide_eq_true_eq, Bool.and_eq_true, beq_iff_eq, Bool.true_and, Bool.and_true, Nat.beq_eq, Nat.ble_eq, true_and, and_true, ge_iff_le, gt_iff_lt]; first | done | omega)) ?_))
    exact ⟨rfl, hK _ _⟩

end Go.Proofs.YtpdkchpjekglaaaGreat.Sx
/- window: a timer's open numbers, by contract. No condition. -/
namespace Go.Proofs.YtpdkchpjekglaaaGreat.Sx
open Go Go.Proofs
set_option maxRecDepth 100000
set_option linter.unusedSimpArgs false
set_option linter.unusedVariables false

theorem TOK.addB {ρ : Nat → Nat} {σ : Nat → Nat × Nat} {B : Base} {tbl : List Blk} {w : World} (h : TOK ρ σ B tbl w) {b : Blk} {g : Nat} {z : Nat × Nat} {pre : List Value} (hg : B.w0.heap.size ≤ g) (hm : ∀ i c, tbl[i]? = some c → ρ i = g → c.isMap = true ∨ (σ i).1 = 0 ∨ c.isDead = true) (hbm : b.isMap = false) (hp : (z.1 = 0 ∧ b.len = 0) ∨ (Pre tbl.length ρ σ b pre ∧ Lies w g z pre)) :
    TOK (upd ρ tbl.length g) (upd σ tbl.length z) B (tbl ++ [b]) w := by
  have hag : ∀ i, i < tbl.length → upd ρ tbl.length g i = ρ i ∧ upd σ tbl.length z i = σ i := fun i hi => ⟨upd_ne _ _ (by omega), upd_ne _ _ (by omega)⟩
  refine ⟨h.fr, fun i c hi hd => ?_, fun i c hi hw hs => ?_, fun i c hi hw hs => ?_, fun i j c d hi hj hc hd hx hsi hsj he => ?_, ?_⟩
  rotate_left 4
  · refine h.mok.via id (fun i c hi hm => ?_) (fun _ _ _ _ _ _ _ _ h => h)
    rcases getElem?_snoc hi with ⟨hl, hi⟩ | ⟨rfl, rfl⟩
    · exact ⟨c, hi, hm, (hag i hl).1, rfl, fun o ho => ho.mono (by simp) (fun i hi _ => hag i hi), fun h => h, fun h => h, fun _ h => h⟩
    · rw [hbm] at hm; cases hm
  · rcases getElem?_snoc hi with ⟨hl', hi⟩ | ⟨rfl, rfl⟩
    · rw [(hag i hl').1, (hag i hl').2]
      rcases h.lies i c hi hd with h0 | ⟨pre, hp', hl''⟩
      · exact .inl h0
      · exact .inr ⟨pre, hp'.mono (by simp) (fun i hi _ => hag i hi), hl''⟩
    · rw [upd_same, upd_same]
      rcases hp with hp | ⟨hp, hl⟩
      · exact .inl hp
      · exact .inr ⟨_, hp.mono (by simp) (fun i hi _ => hag i hi), hl⟩
  · rcases getElem?_snoc hi with ⟨hl', hi⟩ | ⟨rfl, rfl⟩
    · rw [(hag i hl').2] at hs; rw [(hag i hl').1]; exact h.dom i c hi hw hs
    · right; rw [upd_same]; exact hg
  · rcases getElem?_snoc hi with ⟨hl', hi⟩ | ⟨rfl, rfl⟩
    · rw [(hag i hl').2] at hs; rw [(hag i hl').1]; exact h.domw i c hi hw hs
    · right; rw [upd_same]; exact hg
  · rcases getElem?_snoc hi with ⟨hl', hi1⟩ | ⟨e1, e2⟩ <;> rcases getElem?_snoc hj with ⟨hl'', hj1⟩ | ⟨e3, e4⟩
    · rw [(hag i hl').1, (hag j hl'').1] at he
      rw [(hag i hl').2] at hsi
      rw [(hag j hl'').2] at hsj
      exact h.inj i j c d hi1 hj1 hc hd hx hsi hsj he
    · subst e3
      rw [(hag i hl').1, upd_same] at he
      rw [(hag i hl').2] at hsi
      rcases hm i c hi1 he with h1 | h1 | h1
      · rw [not_isMap hc] at h1; cases h1
      · exact absurd h1 hsi
      · rw [hc] at h1; cases h1
    · subst e1
      rw [(hag j hl'').1, upd_same] at he
      rw [(hag j hl'').2] at hsj
      rcases hm j d hj1 he.symm with h1 | h1 | h1
      · rw [not_isMap hd] at h1; cases h1
      · exact absurd h1 hsj
      · rw [hd] at h1; cases h1
    · omega
theorem Below.fr' {w w' : World} (h : RowKit.Below w.heap.size w w') : Fr [] w w' := ⟨h.os, h.tape, h.output, h.size, fun k hk _ => h.block k hk⟩
/-- What is open: some numbers. -/
def openS : Spec := .m fun args blks K => match args, blks with
  | [.ptr 0 0], [.cells a [m, .mp 1], .map b c (.i .i64 tk) g] => ob (decide (tk.length ≤ 1000) && tk.all fun x => decide (0 ≤ x) && decide (x < 1000000))
      (∀ l : List Int, l.length ≤ 1000 ∧ (∀ x ∈ l, x ∈ tk) → K (.slc 2 0 l.length l.length 1) [.cells a [m, .mp 1], .map b c (.i .i64 tk) g, .ints true .i64 l] [])
  | _, _ => False
theorem openS_ok : SpecOK Tryz.prog 82 openS := by
  refine ⟨enters_of Tryz.func82 rfl rfl, fun args blks K h => ?_⟩
  dsimp only at h
  split at h
  case h_2 => exact h.elim
  rename_i a m b c tk g
  rw [ob_iff, Bool.and_eq_true, decide_eq_true_eq, List.all_eq_true] at h
  obtain ⟨⟨hlen, hall⟩, hK⟩ := h
  intro B ρ σ az w hr hT
  simp only [RelL, Rel] at hr
  obtain ⟨u, r, haz, ⟨hu0, hu⟩, hr'⟩ := hr
  subst hr'
  have haz' : az = #[u] := by apply Array.ext'; simpa using haz
  subst haz' hu
  -- the timer's cells
  obtain ⟨pre, hp, hl⟩ : ∃ pre, Pre 2 ρ σ (.cells a [m, .mp 1]) pre ∧ Lies w (ρ 0) (σ 0) pre := by
    rcases hT.lies 0 (.cells a [m, .mp 1]) rfl rfl with ⟨_, h0⟩ | h
    · simp [Blk.len] at h0
    · exact h
  simp only [Pre, RelL, Rel] at hp
  obtain ⟨v0, p1, rfl, _, v1, p2, rfl, ⟨_, rfl⟩, rfl⟩ := hp
  have hcell : w.cell? ⟨ρ 0, (σ 0).2 + 0 + 1, none⟩ = some (.map (some (ρ 1))) := by
    have := hl.cell (o := 1) (x := .map (some (ρ 1))) rfl
    simpa using this
  obtain ⟨ob, ho1, es, clock, rfl, h2, h3, h4, h5, h6, h7⟩ := hT.mok.is 1 (.map b c (.i .i64 tk) g) rfl rfl
  have h2' : es.toList.map (·.key) = tk.map (Value.int .i64) := h2
  have hsz : es.size = tk.length := by
    have := congrArg List.length h2'
    simpa using this
  have hund : (Tryz.prog).underlying 3 = some (.int .i64) := Tryz.underlying3
  have hkey : ∀ e ∈ es.toList, ∃ x : Int, e.key = .int .i64 x ∧ 0 ≤ x ∧ x < 1000000 ∧ x ∈ tk := fun e he => by
    have : e.key ∈ tk.map (Value.int .i64) := by rw [← h2']; exact List.mem_map_of_mem he
    obtain ⟨x, hx, e1⟩ := List.mem_map.1 this
    have := hall x hx
    simp only [Bool.and_eq_true, decide_eq_true_eq] at this
    exact ⟨x, e1.symm, this.1, this.2, hx⟩
  have hrd : ∀ e ∈ es.toList, ∃ x : Int, x ∈ tk ∧ WideElems.rd Tryz.prog 3 (fun _ => some ((.lit (.bool true) : DataW Unit), [])) e = some (.int .i64 x, .lit (.bool true)) := fun e he => by
    obtain ⟨x, hx, hx0, hx1, hx2⟩ := hkey e he
    refine ⟨x, hx2, WideElems.rd_mk (kl := .int .i64 x) (yv := (.lit (.bool true), [])) (key := e.key) (val := e.val) (born := e.born) ?_ rfl⟩
    rw [hx]
    have hwf : (Lit.int .i64 x).wf = true := by simp [Lit.wf, IntKind.min, IntKind.max, IntKind.bits, IntKind.signed]; omega
    simp [keyOf, hund, mapKey, hwf]
  have hfit : WideElems.Fit Tryz.prog 3 (fun _ => some ((.lit (.bool true) : DataW Unit), [])) es clock := by
    refine ⟨by rw [hsz]; unfold maxLen; omega, ⟨h6, h5.imp (fun h => Nat.ne_of_lt h), h3⟩, fun e he => ?_⟩
    obtain ⟨x, _, h⟩ := hrd e he
    exact ⟨_, h⟩
  have hown : w.ownsMap Tryz.prog 3 (fun _ => some ((.lit (.bool true) : DataW Unit), [])) (ρ 1) es.size _ := ⟨es, clock, ho1, hfit, Nat.le_refl _, rfl⟩
  have hsd := hown.size_le
  refine (Tryz.timerOpen (ρ 0) ((σ 0).2 + 0) (ρ 1) es.size _ _ w hcell hown (by unfold maxLen; omega) (by omega)).mono ?_
  rintro e w' ⟨v, ss, rfl, hperm, hrow, hnil, hbel⟩
  have hT' := hT.still (Below.fr' hbel)
  have hsl : ss.length ≤ 1000 := by
    rw [hperm.length_eq]
    simp only [intKeys, List.length_map]
    simp only [Maps.size] at hsd
    omega
  have hmem : ∀ x ∈ ss, x ∈ tk := fun x hx => by
    have h1 := hperm.mem_iff.1 hx
    simp only [intKeys, List.mem_map] at h1
    obtain ⟨p, hp, rfl⟩ := h1
    have h2 := mem_sorted.1 hp
    obtain ⟨e, he, rfl⟩ := List.mem_map.1 h2
    obtain ⟨x, hx, h3⟩ := hrd e he
    rw [WideElems.rg_of h3]
    exact hx
  generalize hms : ss.mergeSort (fun x y => decide (x ≤ y)) = l at hrow
  have hll : l.length = ss.length := by rw [← hms, List.length_mergeSort]
  have hlm : ∀ x ∈ l, x ∈ tk := fun x hx => hmem x ((List.mergeSort_perm ss _).mem_iff.1 (by rw [hms]; exact hx))
  have hold : ∀ i q, [Blk.cells a [m, .mp 1], .map b c (.i .i64 tk) g][i]? = some q → w.heap.size ≤ ρ i → q.isMap = true ∨ (σ i).1 = 0 ∨ q.isDead = true := fun i q hi he => by
    by_cases hq : q.isDead = true
    · exact .inr (.inr hq)
    · by_cases hs : (σ i).1 = 0
      · exact .inr (.inl hs)
      · have := hT.lt hi (by simpa using hq) hs
        omega
  rcases hrow.2 with ⟨rfl, hz⟩ | ⟨gb, cap, cur, rfl, hbase, hgb, r1, r2, r3, r4⟩
  · have : l = [] := List.eq_nil_of_length_eq_zero (by omega)
    subst this
    have hT2 := TOK.addB hT' (g := w'.heap.size) (z := (0, 0)) (b := .ints true .i64 []) (pre := []) hT'.fr.size (fun i q hi he => hold i q hi (by have := hbel.size; omega)) rfl (.inl ⟨rfl, rfl⟩)
    refine ⟨.slc 2 0 0 0 1, _, _, [], _, _, rfl, ?_, ?_, ?_, hT2, hK [] ⟨by simp, hlm⟩⟩
    · simp [Rel]
    · simp
    · intro i hi _
      simp only [List.length_cons, List.length_nil] at hi ⊢
      exact ⟨upd_ne _ _ (by omega), upd_ne _ _ (by omega)⟩
  · have hpre : Pre 2 ρ σ (.ints true .i64 l) (l.map (Value.int .i64)) := rfl
    have hlies : Lies w' gb (cap, 0) (l.map (Value.int .i64)) := by
      refine ⟨cur, 3, (0, 0), [], cur.toList.drop ss.length, hgb, by simp; omega, ?_, ?_, rfl, by simp; omega⟩
      · intro o ho
        simp
      · simp only [Nat.mul_one] at r4
        rw [List.nil_append, ← r4, List.take_append_drop]
    have hT2 := TOK.addB hT' (g := gb) (z := (cap, 0)) (b := .ints true .i64 l) (by have := hT.fr.size; omega) (fun i q hi he => hold i q hi (by omega)) rfl (.inr ⟨hpre, hlies⟩)
    · refine ⟨.slc 2 0 l.length l.length 1, _, _, [], _, _, rfl, ?_, ?_, ?_, hT2, hK l ⟨by omega, hlm⟩⟩
      · simp only [Rel, List.length_append, List.length_cons, List.length_nil, upd_same]
        refine ⟨by omega, Nat.le_refl _, .inr ⟨0, cap, ?_, by omega, .inl rfl, by omega⟩⟩
        rw [hll]
      · simp
      · intro i hi _
        simp only [List.length_cons, List.length_nil] at hi ⊢
        exact ⟨upd_ne _ _ (by omega), upd_ne _ _ (by omega)⟩

end Go.Proofs.YtpdkchpjekglaaaGreat.Sx
/- window: a timer's calls, of which just the shape of what they leave is told. No condition. -/
namespace Go.Proofs.YtpdkchpjekglaaaGreat.Sx
open Go Go.Proofs
set_option maxRecDepth 100000
set_option linter.unusedSimpArgs false
set_option linter.unusedVariables false

/-- A timer's waits. -/
def waits (d e : Value → Int) : Value → SV := fun v => .agg [.v (.int .i64 (d v)), .v (.int .i64 (e v))]
def tkOK (tk : List Int) : Bool := decide (tk.length ≤ 64) && tk.all fun x => decide (0 ≤ x) && decide (x < 1000000)
theorem moment_vf (n : Int) (K : SV → List Blk → List Nat → Prop) : vf Tryz.prog [] (noI) Tryz.f81 [.v (.int .i64 n)] [] K =
  (bc (decide (n ≥ (0 : Int))) (K (SV.v (Value.bool (bif true then decide (n ≤ (1099511627776 : Int)) else false))) [] []) (K (SV.v (Value.bool false)) [] [])) := by kernel_rfl
def momentS : Spec := .q fun args blks K => match args, blks with
  | [.v (.int .i64 n)], [] => K (.v (.bool (decide (0 ≤ n) && decide (n ≤ 1099511627776))))
  | _, _ => False
theorem momentS_ok : SpecOK Tryz.prog 81 momentS := by
  refine q_ro mixed .nil Tryz.func81 rfl rfl fun args blks K h => ?_
  split at h
  · rename_i n
    refine ⟨_, rfl, h, rfl, noI, ?_⟩
    rw [moment_vf]
    by_cases h1 : 0 ≤ n
    · rw [decide_eq_true (show n ≥ 0 from h1)]; exact rfl
    · rw [decide_eq_false (show ¬ n ≥ 0 from h1)]; exact rfl
  · exact h.elim
structure Du3 where
  out : List Int
  d : Value → Int
  e : Value → Int
def duSh (m now : Int) (tk l : List Int) (k : Nat) (x : Du3) : St := ⟨[(15, inat k), (14, .v (.int .i64 l.length)), (13, .slc 2 0 l.length l.length 1), (5, .slc 3 0 x.out.length x.out.length 1), (1, .v (.int .i64 now)), (0, .ptr 0 0)], 49,
  [.cells true [.v (.int .i64 m), .mp 1], .map true true (.i .i64 tk) (waits x.d x.e), .ints true .i64 l, .ints true .i64 x.out], [], 2⟩
def duI (m now : Int) (tk : List Int) (d e : Value → Int) : Nat → St → LK := fun _ st => .gh Du3 (gi st 2).length ⟨[], d, e⟩ (fun k x => x.out.length ≤ k) (duSh m now tk (gi st 2))
theorem due_vf (m now : Int) (tk : List Int) (d e : Value → Int) (K : SV → List Blk → List Nat → Prop) : vf Tryz.prog [(81, momentS), (82, openS)] (duI m now tk d e) Tryz.f38 [.ptr 0 0, .v (.int .i64 now)] [.cells true [.v (.int .i64 m), .mp 1], .map true true (.i .i64 tk) (waits d e)] K =
  (bc (!(decide ((0 : Int) ≤ now) && decide (now ≤ (1099511627776 : Int)))) (K (SV.v (Value.slice none (0 : Nat) (0 : Nat))) [Blk.cells true [SV.v (Value.int IntKind.i64 m), SV.mp (1 : Nat)], Blk.map true true (KS.i IntKind.i64 tk) (waits d e)] []) (ob (decide (tk.length ≤ (1000 : Nat)) && tk.all fun (x : Int) => decide ((0 : Int) ≤ x) && decide (x < (1000000 : Int))) (∀ (l : List Int), (l.length ≤ (1000 : Nat) ∧ ∀ (x : Int), x ∈ l → x ∈ tk) → (0 : Nat) ≤ (0 : Nat) ∧ ob true (ob ((↑l.length : Int) == (↑l.length : Int)) (ob true (ob true (ob (l.length.beq l.length) (ob (l.length.ble l.length) (ob (l.length.ble l.length) (ob true (ob true (ob true (ob (now == now) (ob true (ob true (ob true (ob (m == m) (ob true (ob true (ob (tk == tk) ((∀ (y : Value), y ∈ (KS.i IntKind.i64 tk).vals → true = true ∧ d y = (Du3.mk [] d e).d y ∧ e y = (Du3.mk [] d e).e y ∧ True) ∧ ob true (ob (l == l) (ob true True ∧ ∀ (k : Nat), k ≤ l.length → ∀ (x : Du3), x.out.length ≤ k → bc (decide ((↑k : Int) < (↑l.length : Int))) (ob (true && decide ((↑k : Int) < (↑l.length : Int))) (ob (decide ((0 : Nat) + (↑k : Int).toNat * (1 : Nat) + (0 : Nat) < l.length)) (bc (decide ((bif hasK (KS.i IntKind.i64 tk) (Ky.i IntKind.i64 (l.getD ((0 : Nat) + (↑k : Int).toNat * (1 : Nat) + (0 : Nat)) (0 : Int))) then x.d (Value.int IntKind.i64 (l.getD ((0 : Nat) + (↑k : Int).toNat * (1 : Nat) + (0 : Nat)) (0 : Int))) else (0 : Int)) > now)) (k < l.length ∧ ∃ (x' : Du3), x'.out.length ≤ k + (1 : Nat) ∧ ob (IntKind.i64.wrap ((↑k : Int) + (1 : Int)) == (↑(k + (1 : Nat)) : Int)) (ob ((↑l.length : Int) == (↑l.length : Int)) (ob true (ob true (ob (l.length.beq l.length) (ob (l.length.ble l.length) (ob (l.length.ble l.length) (ob true (ob true (ob true (ob (x.out.length.beq x'.out.length) (ob (x'.out.length.ble x.out.length) (ob (x'.out.length.ble x'.out.length) (ob true (ob (now == now) (ob true (ob true (ob true (ob (m == m) (ob true (ob true (ob (tk == tk) ((∀ (y : Value), y ∈ (KS.i IntKind.i64 tk).vals → true = true ∧ x.d y = x'.d y ∧ x.e y = x'.e y ∧ True) ∧ ob true (ob (l == l) (ob true (ob (x.out == x'.out) True)))))))))))))))))))))))))) (ob true (ob (x.out.length.beq (x.out.length * (1 : Nat))) (ob (decide ((x.out.length + (1 : Nat)) * (8 : Nat) ≤ (140737488355328 : Nat))) (k < l.length ∧ ∃ (x' : Du3), x'.out.length ≤ k + (1 : Nat) ∧ ob (IntKind.i64.wrap ((↑k : Int) + (1 : Int)) == (↑(k + (1 : Nat)) : Int)) (ob ((↑l.length : Int) == (↑l.length : Int)) (ob true (ob true (ob (l.length.beq l.length) (ob (l.length.ble l.length) (ob (l.length.ble l.length) (ob true (ob true (ob true (ob ((x.out.length + (1 : Nat)).beq x'.out.length) (ob (x'.out.length.ble (x.out.length + (1 : Nat))) (ob (x'.out.length.ble x'.out.length) (ob true (ob (now == now) (ob true (ob true (ob true (ob (m == m) (ob true (ob true (ob (insI tk (l.getD ((0 : Nat) + (↑k : Int).toNat * (1 : Nat) + (0 : Nat)) (0 : Int)) == tk) ((∀ (y : Value), y ∈ (KS.i IntKind.i64 tk).vals → true = true ∧ (bif keq (Value.int IntKind.i64 (l.getD ((0 : Nat) + (↑k : Int).toNat * (1 : Nat) + (0 : Nat)) (0 : Int))) y then IntKind.i64.wrap (now + bif hasK (KS.i IntKind.i64 tk) (Ky.i IntKind.i64 (l.getD ((0 : Nat) + (↑k : Int).toNat * (1 : Nat) + (0 : Nat)) (0 : Int))) then x.e (Value.int IntKind.i64 (l.getD ((0 : Nat) + (↑k : Int).toNat * (1 : Nat) + (0 : Nat)) (0 : Int))) else (0 : Int)) else x.d y) = x'.d y ∧ (bif keq (Value.int IntKind.i64 (l.getD ((0 : Nat) + (↑k : Int).toNat * (1 : Nat) + (0 : Nat)) (0 : Int))) y then mn (IntKind.i64.wrap ((2 : Int) * bif hasK (KS.i IntKind.i64 tk) (Ky.i IntKind.i64 (l.getD ((0 : Nat) + (↑k : Int).toNat * (1 : Nat) + (0 : Nat)) (0 : Int))) then x.e (Value.int IntKind.i64 (l.getD ((0 : Nat) + (↑k : Int).toNat * (1 : Nat) + (0 : Nat)) (0 : Int))) else (0 : Int))) (64 : Int) else x.e y) = x'.e y ∧ True) ∧ ob true (ob (l == l) (ob true (ob (x.out ++ [l.getD ((0 : Nat) + (↑k : Int).toNat * (1 : Nat) + (0 : Nat)) (0 : Int)] == x'.out) True)))))))))))))))))))))))))))))))) (K (SV.slc (3 : Nat) (0 : Nat) x.out.length x.out.length (1 : Nat)) [Blk.cells true [SV.v (Value.int IntKind.i64 m), SV.mp (1 : Nat)], Blk.map true true (KS.i IntKind.i64 tk) (waits x.d x.e), Blk.ints true IntKind.i64 l, Blk.ints true IntKind.i64 x.out] [])))))))))))))))))))))))) := by kernel_rfl
theorem tkOK_def (tk : List Int) : tkOK tk = (decide (tk.length ≤ 64) && tk.all fun x => decide (0 ≤ x) && decide (x < 1000000)) := by rw [tkOK]
theorem tkOK_iff {tk : List Int} : tkOK tk = true ↔ tk.length ≤ 64 ∧ ∀ x ∈ tk, 0 ≤ x ∧ x < 1000000 := by
  rw [tkOK_def, Bool.and_eq_true, decide_eq_true_eq, List.all_eq_true]
  simp only [Bool.and_eq_true, decide_eq_true_eq]
theorem tkOK_open {tk : List Int} (h : tkOK tk = true) : (decide (tk.length ≤ 1000) && tk.all fun x => decide (0 ≤ x) && decide (x < 1000000)) = true := by
  rw [tkOK_def, Bool.and_eq_true, decide_eq_true_eq] at h
  rw [Bool.and_eq_true, decide_eq_true_eq]
  exact ⟨by omega, h.2⟩
theorem waits_eq {d e d' e' : Value → Int} {v : Value} (h1 : d v = d' v) (h2 : e v = e' v) : SV.le (waits d e v) (waits d' e' v) := by
  simp only [waits, SV.le, SV.leL, veq, decide_true]
  exact ⟨h1, h2, trivial⟩
theorem getD_mem {l : List Int} {k : Nat} (h : k < l.length) : l.getD k 0 ∈ l := by
  rw [List.getD_eq_getElem?_getD, List.getElem?_eq_getElem h]; exact List.getElem_mem h
theorem insI_mem {l : List Int} {x : Int} (h : x ∈ l) : insI l x = l := by unfold insI; rw [hasI_iff.2 h]
def dueS : Spec := .m fun args blks K => match args, blks with
  | [.ptr 0 0, .v (.int .i64 now)], [.cells true [.v (.int .i64 m), .mp 1], .map true true (.i .i64 tk) g] => ∃ d e : Value → Int, g = waits d e ∧ ob ((decide (0 ≤ now) && decide (now ≤ 1099511627776)) && tkOK tk)
      (∀ (l : List Int) (d' e' : Value → Int), l.length ≤ 1000 → K (.slc 2 0 l.length l.length 1) [.cells true [.v (.int .i64 m), .mp 1], .map true true (.i .i64 tk) (waits d' e'), .ints true .i64 l] [])
  | _, _ => False
theorem dueS_ok : SpecOK Tryz.prog 38 dueS := by
  refine m_keep mixed (.cons momentS_ok (.cons openS_ok .nil)) Tryz.func38 rfl rfl fun args blks K h => ?_
  split at h
  case h_2 => exact h.elim
  rename_i now m tk g
  obtain ⟨d, e, rfl, h⟩ := h
  rw [ob_iff, Bool.and_eq_true, Bool.and_eq_true, decide_eq_true_eq, decide_eq_true_eq] at h
  obtain ⟨⟨⟨hn0, hn1⟩, htk⟩, hK⟩ := h
  refine ⟨duI m now tk d e, [0, 1, 3], ?_⟩
  rw [due_vf]
  refine bc_mk (fun h1 => ?_) (fun _ => ob_mk (tkOK_open htk) (fun l ⟨hl, hm⟩ => ?_))
  · rw [decide_eq_true hn0, decide_eq_true hn1] at h1; cases h1
  · refine ⟨by omega, ?_⟩
    (repeat (first | (with_reducible refine ob_true ?_) | refine ob_mk (by first | (with_reducible exact beq_self_eq_true _) | (with_reducible exact nbeq _) | (with_reducible exact nble _) | (with_reducible exact seq_rfl _) | (with_reducible assumption) | (simp only [decide_eq_true_eq, Bool.and_eq_true, beq_iff_eq, Bool.true_and, Bool.and_true, Nat.beq_eq, Nat.ble_eq, true_and, and_true, ge_iff_le, gt_iff_lt]; first | done | omega)) ?_))
    refine ⟨fun _ _ => ⟨rfl, rfl, rfl, trivial⟩, ?_⟩
    (repeat (first | (with_reducible refine ob_true ?_) | refine ob_mk (by first | (with_reducible exact beq_self_eq_true _) | (with_reducible exact nbeq _) | (with_reducible exact nble _) | (with_reducible exact seq_rfl _) | (with_reducible assumption) | (simp only [decide_eq_true_eq, Bool.and_eq_true, beq_iff_eq, Bool.true_and, Bool.and_true, Nat.beq_eq, Nat.ble_eq, true_and, and_true, ge_iff_le, gt_iff_lt]; first | done | omega)) ?_))
    refine ⟨by (repeat' (first | (with_reducible exact trivial) | (exact fun _ _ => rfl) | (exact fun _ _ => trivial) | (exact fun _ _ => ⟨rfl, rfl⟩) | (exact fun _ _ => ⟨rfl, rfl, rfl, trivial⟩) | (with_reducible refine ob_true ?_) | (with_reducible apply And.intro) | (with_reducible refine ob_mk ?hob ?_; case hob => exact (by first | (with_reducible exact beq_self_eq_true _) | (with_reducible exact nbeq _) | (with_reducible exact nble _) | (with_reducible exact seq_rfl _) | (with_reducible assumption) | (simp only [decide_eq_true_eq, Bool.and_eq_true, beq_iff_eq, Bool.true_and, Bool.and_true, Nat.beq_eq, Nat.ble_eq, true_and, and_true, ge_iff_le, gt_iff_lt]; first | done | omega))))), fun k hk x hx => bc_mk (fun h1 => ?_) (fun h1 => ?_)⟩
    · have h1 := of_decide_eq_true h1
      have e1 : 0 + (k : Int).toNat * 1 + 0 = k := by omega
      have e2 : IntKind.i64.wrap ((k : Int) + 1) = ((k + 1 : Nat) : Int) := by rw [wrap_i64 _ (by omega) (by omega)]; omega
      rw [e1, e2]
      have hin : l.getD k 0 ∈ tk := hm _ (getD_mem (by omega))
      (repeat (first | (with_reducible refine ob_true ?_) | refine ob_mk (by first | (with_reducible exact beq_self_eq_true _) | (with_reducible exact nbeq _) | (with_reducible exact nble _) | (with_reducible exact seq_rfl _) | (with_reducible assumption) | (simp only [decide_eq_true_eq, Bool.and_eq_true, beq_iff_eq, Bool.true_and, Bool.and_true, Nat.beq_eq, Nat.ble_eq, true_and, and_true, ge_iff_le, gt_iff_lt]; first | done | omega)) ?_))
      refine bc_mk (fun h2 => ⟨by omega, x, by omega, ?_⟩) (fun h2 => ?_)
      · (repeat (first | (with_reducible refine ob_true ?_) | refine ob_mk (by first | (with_reducible exact beq_self_eq_true _) | (with_reducible exact nbeq _) | (with_reducible exact nble _) | (with_reducible exact seq_rfl _) | (with_reducible assumption) | (simp only [decide_eq_true_eq, Bool.and_eq_true, beq_iff_eq, Bool.true_and, Bool.and_true, Nat.beq_eq, Nat.ble_eq, true_and, and_true, ge_iff_le, gt_iff_lt]; first | done | omega)) ?_))
        refine ⟨fun _ _ => ⟨rfl, rfl, rfl, trivial⟩, ?_⟩
        (repeat' (first | (with_reducible exact trivial) | (exact fun _ _ => rfl) | (exact fun _ _ => trivial) | (exact fun _ _ => ⟨rfl, rfl⟩) | (exact fun _ _ => ⟨rfl, rfl, rfl, trivial⟩) | (with_reducible refine ob_true ?_) | (with_reducible apply And.intro) | (with_reducible refine ob_mk ?hob ?_; case hob => exact (by first | (with_reducible exact beq_self_eq_true _) | (with_reducible exact nbeq _) | (with_reducible exact nble _) | (with_reducible exact seq_rfl _) | (with_reducible assumption) | (simp only [decide_eq_true_eq, Bool.and_eq_true, beq_iff_eq, Bool.true_and, Bool.and_true, Nat.beq_eq, Nat.ble_eq, true_and, and_true, ge_iff_le, gt_iff_lt]; first | done | omega)))))
      · (repeat (first | (with_reducible refine ob_true ?_) | refine ob_mk (by first | (with_reducible exact beq_self_eq_true _) | (with_reducible exact nbeq _) | (with_reducible exact nble _) | (with_reducible exact seq_rfl _) | (with_reducible assumption) | (simp only [decide_eq_true_eq, Bool.and_eq_true, beq_iff_eq, Bool.true_and, Bool.and_true, Nat.beq_eq, Nat.ble_eq, true_and, and_true, ge_iff_le, gt_iff_lt]; first | done | omega)) ?_))
        refine ⟨by omega, ⟨x.out ++ [l.getD k 0], fun y => bif keq (Value.int IntKind.i64 (l.getD k 0)) y then IntKind.i64.wrap (now + bif hasK (KS.i IntKind.i64 tk) (Ky.i IntKind.i64 (l.getD k 0)) then x.e (Value.int IntKind.i64 (l.getD k 0)) else 0) else x.d y,
            fun y => bif keq (Value.int IntKind.i64 (l.getD k 0)) y then mn (IntKind.i64.wrap (2 * bif hasK (KS.i IntKind.i64 tk) (Ky.i IntKind.i64 (l.getD k 0)) then x.e (Value.int IntKind.i64 (l.getD k 0)) else 0)) 64 else x.e y⟩, ?_, ?_⟩
        rotate_left 1
        · rw [insI_mem hin]
          have e3 : (x.out ++ [l.getD k 0]).length = x.out.length + 1 := by simp
          dsimp only
          rw [e3]
          (repeat (first | (with_reducible refine ob_true ?_) | refine ob_mk (by first | (with_reducible exact beq_self_eq_true _) | (with_reducible exact nbeq _) | (with_reducible exact nble _) | (with_reducible exact seq_rfl _) | (with_reducible assumption) | (simp only [decide_eq_true_eq, Bool.and_eq_true, beq_iff_eq, Bool.true_and, Bool.and_true, Nat.beq_eq, Nat.ble_eq, true_and, and_true, ge_iff_le, gt_iff_lt]; first | done | omega)) ?_))
          refine ⟨fun _ _ => ⟨rfl, rfl, rfl, trivial⟩, ?_⟩
          (repeat' (first | (with_reducible exact trivial) | (exact fun _ _ => rfl) | (exact fun _ _ => trivial) | (exact fun _ _ => ⟨rfl, rfl⟩) | (exact fun _ _ => ⟨rfl, rfl, rfl, trivial⟩) | (with_reducible refine ob_true ?_) | (with_reducible apply And.intro) | (with_reducible refine ob_mk ?hob ?_; case hob => exact (by first | (with_reducible exact beq_self_eq_true _) | (with_reducible exact nbeq _) | (with_reducible exact nble _) | (with_reducible exact seq_rfl _) | (with_reducible assumption) | (simp only [decide_eq_true_eq, Bool.and_eq_true, beq_iff_eq, Bool.true_and, Bool.and_true, Nat.beq_eq, Nat.ble_eq, true_and, and_true, ge_iff_le, gt_iff_lt]; first | done | omega)))))
        · simp; omega
    · have h1 := of_decide_eq_false h1
      refine ⟨rfl, _, rfl, ?_⟩
      exact hK x.out x.d x.e (by omega)

end Go.Proofs.YtpdkchpjekglaaaGreat.Sx
/- window: a timer's other calls. No condition. -/
namespace Go.Proofs.YtpdkchpjekglaaaGreat.Sx
open Go Go.Proofs
set_option maxRecDepth 100000
set_option linter.unusedSimpArgs false
set_option linter.unusedVariables false

theorem sent_vf (m s now : Int) (tk : List Int) (d e : Value → Int) (K : SV → List Blk → List Nat → Prop) : vf Tryz.prog [(81, momentS)] (noI) Tryz.f40 [.ptr 0 0, .v (.int .i64 s), .v (.int .i64 now)] [.cells true [.v (.int .i64 m), .mp 1], .map true true (.i .i64 tk) (waits d e)] K =
  (bc (bif false then true else decide (s < (0 : Int))) (K (SV.v (Value.bool false)) [Blk.cells true [SV.v (Value.int IntKind.i64 m), SV.mp (1 : Nat)], Blk.map true true (KS.i IntKind.i64 tk) (waits d e)] []) (bc (bif false then true else !(decide ((0 : Int) ≤ now) && decide (now ≤ (1099511627776 : Int)))) (K (SV.v (Value.bool false)) [Blk.cells true [SV.v (Value.int IntKind.i64 m), SV.mp (1 : Nat)], Blk.map true true (KS.i IntKind.i64 tk) (waits d e)] []) (bc (bif false then true else decide ((↑tk.length : Int) ≥ m)) (K (SV.v (Value.bool false)) [Blk.cells true [SV.v (Value.int IntKind.i64 m), SV.mp (1 : Nat)], Blk.map true true (KS.i IntKind.i64 tk) (waits d e)] []) (bc (hasK (KS.i IntKind.i64 tk) (Ky.i IntKind.i64 s)) (K (SV.v (Value.bool false)) [Blk.cells true [SV.v (Value.int IntKind.i64 m), SV.mp (1 : Nat)], Blk.map true true (KS.i IntKind.i64 tk) (waits d e), Blk.ints true IntKind.i64 [bif hasK (KS.i IntKind.i64 tk) (Ky.i IntKind.i64 s) then d (Value.int IntKind.i64 s) else (0 : Int), bif hasK (KS.i IntKind.i64 tk) (Ky.i IntKind.i64 s) then e (Value.int IntKind.i64 s) else (0 : Int)]] []) (K (SV.v (Value.bool true)) [Blk.cells true [SV.v (Value.int IntKind.i64 m), SV.mp (1 : Nat)], Blk.map true true (insK (KS.i IntKind.i64 tk) (Ky.i IntKind.i64 s)) fun (v : Value) => SV.agg [SV.v (Value.int IntKind.i64 (bif keq (Value.int IntKind.i64 s) v then IntKind.i64.wrap (now + (4 : Int)) else d v)), SV.v (Value.int IntKind.i64 (bif keq (Value.int IntKind.i64 s) v then (8 : Int) else e v))], Blk.ints true IntKind.i64 [bif hasK (KS.i IntKind.i64 tk) (Ky.i IntKind.i64 s) then d (Value.int IntKind.i64 s) else (0 : Int), bif hasK (KS.i IntKind.i64 tk) (Ky.i IntKind.i64 s) then e (Value.int IntKind.i64 s) else (0 : Int)]] []))))) := by kernel_rfl
structure Ak3 where
  n : Int
  tk : List Int
def akSh (m u : Int) (l : List Int) (d e : Value → Int) (k : Nat) (x : Ak3) : St := ⟨[(11, inat k), (10, .v (.int .i64 l.length)), (9, .slc 2 0 l.length l.length 1), (5, .v (.int .i64 x.n)), (1, .v (.int .i64 u)), (0, .ptr 0 0)], 27,
  [.cells true [.v (.int .i64 m), .mp 1], .map true true (.i .i64 x.tk) (waits d e), .ints true .i64 l], [], 2⟩
def akI (m u : Int) (tk : List Int) (d e : Value → Int) : Nat → St → LK := fun _ st => .gh Ak3 (gi st 2).length ⟨0, tk⟩ (fun _ x => tkOK x.tk = true) (akSh m u (gi st 2) d e)
theorem acked_vf (m u : Int) (tk : List Int) (d e : Value → Int) (K : SV → List Blk → List Nat → Prop) : vf Tryz.prog [(82, openS)] (akI m u tk d e) Tryz.f44 [.ptr 0 0, .v (.int .i64 u)] [.cells true [.v (.int .i64 m), .mp 1], .map true true (.i .i64 tk) (waits d e)] K =
  (ob (decide (tk.length ≤ (1000 : Nat)) && tk.all fun (x : Int) => decide ((0 : Int) ≤ x) && decide (x < (1000000 : Int))) (∀ (l : List Int), (l.length ≤ (1000 : Nat) ∧ ∀ (x : Int), x ∈ l → x ∈ tk) → tkOK (Ak3.mk (0 : Int) tk).tk = true ∧ ob true (ob ((↑l.length : Int) == (↑l.length : Int)) (ob true (ob true (ob (l.length.beq l.length) (ob (l.length.ble l.length) (ob (l.length.ble l.length) (ob true (ob true (ob (u == u) (ob true (ob true (ob true (ob (m == m) (ob true (ob true (ob (tk == (Ak3.mk (0 : Int) tk).tk) ((∀ (y : Value), y ∈ (KS.i IntKind.i64 (Ak3.mk (0 : Int) tk).tk).vals → true = true ∧ d y = d y ∧ e y = e y ∧ True) ∧ ob true (ob (l == l) (∀ (k : Nat), k ≤ l.length → ∀ (x : Ak3), tkOK x.tk = true → bc (decide ((↑k : Int) < (↑l.length : Int))) (ob (true && decide ((↑k : Int) < (↑l.length : Int))) (ob (decide ((0 : Nat) + (↑k : Int).toNat * (1 : Nat) + (0 : Nat) < l.length)) (bc (decide (l.getD ((0 : Nat) + (↑k : Int).toNat * (1 : Nat) + (0 : Nat)) (0 : Int) < u)) (k < l.length ∧ ∃ (x' : Ak3), tkOK x'.tk = true ∧ ob (IntKind.i64.wrap ((↑k : Int) + (1 : Int)) == (↑(k + (1 : Nat)) : Int)) (ob ((↑l.length : Int) == (↑l.length : Int)) (ob true (ob true (ob (l.length.beq l.length) (ob (l.length.ble l.length) (ob (l.length.ble l.length) (ob true (ob (IntKind.i64.wrap (x.n + (1 : Int)) == x'.n) (ob (u == u) (ob true (ob true (ob true (ob (m == m) (ob true (ob true (ob (delI x.tk (l.getD ((0 : Nat) + (↑k : Int).toNat * (1 : Nat) + (0 : Nat)) (0 : Int)) == x'.tk) ((∀ (y : Value), y ∈ (KS.i IntKind.i64 x'.tk).vals → true = true ∧ d y = d y ∧ e y = e y ∧ True) ∧ ob true (ob (l == l) True))))))))))))))))))) (k < l.length ∧ ∃ (x' : Ak3), tkOK x'.tk = true ∧ ob (IntKind.i64.wrap ((↑k : Int) + (1 : Int)) == (↑(k + (1 : Nat)) : Int)) (ob ((↑l.length : Int) == (↑l.length : Int)) (ob true (ob true (ob (l.length.beq l.length) (ob (l.length.ble l.length) (ob (l.length.ble l.length) (ob true (ob (x.n == x'.n) (ob (u == u) (ob true (ob true (ob true (ob (m == m) (ob true (ob true (ob (x.tk == x'.tk) ((∀ (y : Value), y ∈ (KS.i IntKind.i64 x'.tk).vals → true = true ∧ d y = d y ∧ e y = e y ∧ True) ∧ ob true (ob (l == l) True)))))))))))))))))))))) (K (SV.v (Value.int IntKind.i64 x.n)) [Blk.cells true [SV.v (Value.int IntKind.i64 m), SV.mp (1 : Nat)], Blk.map true true (KS.i IntKind.i64 x.tk) (waits d e), Blk.ints true IntKind.i64 l] [])))))))))))))))))))))) := by kernel_rfl
theorem tkOK_ins {tk : List Int} {s : Int} {m : Nat} (h : tkOK tk = true) (hl : tk.length < m) (hm : m ≤ 64) (h0 : 0 ≤ s) (h1 : s < 1000000) : tkOK (insI tk s) = true := by
  rw [tkOK_iff] at h ⊢
  unfold insI
  split
  · exact h
  · refine ⟨by simp; omega, fun x hx => ?_⟩
    rcases List.mem_append.1 hx with hx | hx
    · exact h.2 x hx
    · simp at hx; subst hx; exact ⟨h0, h1⟩
theorem tkOK_del {tk : List Int} {s : Int} (h : tkOK tk = true) : tkOK (delI tk s) = true := by
  rw [tkOK_iff] at h ⊢
  unfold delI
  exact ⟨by have := List.length_erase_le (a := s) (l := tk); omega, fun x hx => h.2 x (List.mem_of_mem_erase hx)⟩
def sentS : Spec := .m fun args blks K => match args, blks with
  | [.ptr 0 0, .v (.int .i64 s), .v (.int .i64 now)], [.cells true [.v (.int .i64 m), .mp 1], .map true true (.i .i64 tk) g] => ∃ d e : Value → Int, g = waits d e ∧ ob (((decide (0 ≤ s) && decide (s < 1000000)) && decide (m ≤ 64)) && tkOK tk)
      (∀ (b : Bool) (tk' : List Int) (d' e' : Value → Int), tkOK tk' = true → K (.v (.bool b)) [.cells true [.v (.int .i64 m), .mp 1], .map true true (.i .i64 tk') (waits d' e')] [])
  | _, _ => False
theorem sentS_ok : SpecOK Tryz.prog 40 sentS := by
  refine m_of mixed (.cons momentS_ok .nil) Tryz.func40 rfl rfl fun args blks K h => ?_
  split at h
  case h_2 => exact h.elim
  rename_i s now m tk g
  obtain ⟨d, e, rfl, h⟩ := h
  rw [ob_iff] at h
  simp only [Bool.and_eq_true, decide_eq_true_eq] at h
  obtain ⟨⟨⟨⟨hs0, hs1⟩, hm⟩, htk⟩, hK⟩ := h
  refine ⟨noI, 2, ?_⟩
  rw [sent_vf]
  refine bc_mk (fun _ => ⟨rfl, hK false tk d e htk⟩) (fun _ => bc_mk (fun _ => ⟨rfl, hK false tk d e htk⟩) (fun _ => bc_mk (fun _ => ⟨rfl, hK false tk d e htk⟩) (fun h1 => bc_mk (fun _ => ⟨rfl, hK false tk d e htk⟩) (fun _ => ?_))))
  have h1 := of_decide_eq_false h1
  refine ⟨rfl, ?_⟩
  exact hK true (insI tk s) (fun y => bif keq (Value.int IntKind.i64 s) y then IntKind.i64.wrap (now + 4) else d y) (fun y => bif keq (Value.int IntKind.i64 s) y then 8 else e y) (tkOK_ins (m := 64) htk (by omega) (by omega) hs0 hs1)
def ackedS : Spec := .m fun args blks K => match args, blks with
  | [.ptr 0 0, .v (.int .i64 u)], [.cells true [.v (.int .i64 m), .mp 1], .map true true (.i .i64 tk) g] => ∃ d e : Value → Int, g = waits d e ∧ ob (tkOK tk)
      (∀ (n : Int) (tk' : List Int), tkOK tk' = true → K (.v (.int .i64 n)) [.cells true [.v (.int .i64 m), .mp 1], .map true true (.i .i64 tk') (waits d e)] [])
  | _, _ => False
theorem ackedS_ok : SpecOK Tryz.prog 44 ackedS := by
  refine m_of mixed (.cons openS_ok .nil) Tryz.func44 rfl rfl fun args blks K h => ?_
  split at h
  case h_2 => exact h.elim
  rename_i u m tk g
  obtain ⟨d, e, rfl, h⟩ := h
  rw [ob_iff] at h
  obtain ⟨htk, hK⟩ := h
  refine ⟨akI m u tk d e, 2, ?_⟩
  rw [acked_vf]
  refine ob_mk (tkOK_open htk) (fun l ⟨hl, hm⟩ => ⟨htk, ?_⟩)
  (repeat (first | (with_reducible refine ob_true ?_) | refine ob_mk (by first | (with_reducible exact beq_self_eq_true _) | (with_reducible exact nbeq _) | (with_reducible exact nble _) | (with_reducible exact seq_rfl _) | (with_reducible assumption) | (simp only [decide_eq_true_eq, Bool.and_eq_true, beq_iff_eq, Bool.true_and, Bool.and_true, Nat.beq_eq, Nat.ble_eq, true_and, and_true, ge_iff_le, gt_iff_lt]; first | done | omega)) ?_))
  refine ⟨fun _ _ => ⟨rfl, rfl, rfl, trivial⟩, ?_⟩
  (repeat (first | (with_reducible refine ob_true ?_) | refine ob_mk (by first | (with_reducible exact beq_self_eq_true _) | (with_reducible exact nbeq _) | (with_reducible exact nble _) | (with_reducible exact seq_rfl _) | (with_reducible assumption) | (simp only [decide_eq_true_eq, Bool.and_eq_true, beq_iff_eq, Bool.true_and, Bool.and_true, Nat.beq_eq, Nat.ble_eq, true_and, and_true, ge_iff_le, gt_iff_lt]; first | done | omega)) ?_))
  refine fun k hk x hx => bc_mk (fun h1 => ?_) (fun h1 => ?_)
  · have h1 := of_decide_eq_true h1
    have e1 : 0 + (k : Int).toNat * 1 + 0 = k := by omega
    have e2 : IntKind.i64.wrap ((k : Int) + 1) = ((k + 1 : Nat) : Int) := by rw [wrap_i64 _ (by omega) (by omega)]; omega
    rw [e1, e2]
    (repeat (first | (with_reducible refine ob_true ?_) | refine ob_mk (by first | (with_reducible exact beq_self_eq_true _) | (with_reducible exact nbeq _) | (with_reducible exact nble _) | (with_reducible exact seq_rfl _) | (with_reducible assumption) | (simp only [decide_eq_true_eq, Bool.and_eq_true, beq_iff_eq, Bool.true_and, Bool.and_true, Nat.beq_eq, Nat.ble_eq, true_and, and_true, ge_iff_le, gt_iff_lt]; first | done | omega)) ?_))
    refine bc_mk (fun h2 => ⟨by omega, ⟨IntKind.i64.wrap (x.n + 1), delI x.tk (l.getD k 0)⟩, tkOK_del hx, ?_⟩) (fun h2 => ⟨by omega, x, hx, ?_⟩)
    · (repeat (first | (with_reducible refine ob_true ?_) | refine ob_mk (by first | (with_reducible exact beq_self_eq_true _) | (with_reducible exact nbeq _) | (with_reducible exact nble _) | (with_reducible exact seq_rfl _) | (with_reducible assumption) | (simp only [decide_eq_true_eq, Bool.and_eq_true, beq_iff_eq, Bool.true_and, Bool.and_true, Nat.beq_eq, Nat.ble_eq, true_and, and_true, ge_iff_le, gt_iff_lt]; first | done | omega)) ?_))
      refine ⟨fun _ _ => ⟨rfl, rfl, rfl, trivial⟩, ?_⟩
      (repeat' (first | (with_reducible exact trivial) | (exact fun _ _ => rfl) | (exact fun _ _ => trivial) | (exact fun _ _ => ⟨rfl, rfl⟩) | (exact fun _ _ => ⟨rfl, rfl, rfl, trivial⟩) | (with_reducible refine ob_true ?_) | (with_reducible apply And.intro) | (with_reducible refine ob_mk ?hob ?_; case hob => exact (by first | (with_reducible exact beq_self_eq_true _) | (with_reducible exact nbeq _) | (with_reducible exact nble _) | (with_reducible exact seq_rfl _) | (with_reducible assumption) | (simp only [decide_eq_true_eq, Bool.and_eq_true, beq_iff_eq, Bool.true_and, Bool.and_true, Nat.beq_eq, Nat.ble_eq, true_and, and_true, ge_iff_le, gt_iff_lt]; first | done | omega)))))
    · (repeat (first | (with_reducible refine ob_true ?_) | refine ob_mk (by first | (with_reducible exact beq_self_eq_true _) | (with_reducible exact nbeq _) | (with_reducible exact nble _) | (with_reducible exact seq_rfl _) | (with_reducible assumption) | (simp only [decide_eq_true_eq, Bool.and_eq_true, beq_iff_eq, Bool.true_and, Bool.and_true, Nat.beq_eq, Nat.ble_eq, true_and, and_true, ge_iff_le, gt_iff_lt]; first | done | omega)) ?_))
      refine ⟨fun _ _ => ⟨rfl, rfl, rfl, trivial⟩, ?_⟩
      (repeat' (first | (with_reducible exact trivial) | (exact fun _ _ => rfl) | (exact fun _ _ => trivial) | (exact fun _ _ => ⟨rfl, rfl⟩) | (exact fun _ _ => ⟨rfl, rfl, rfl, trivial⟩) | (with_reducible refine ob_true ?_) | (with_reducible apply And.intro) | (with_reducible refine ob_mk ?hob ?_; case hob => exact (by first | (with_reducible exact beq_self_eq_true _) | (with_reducible exact nbeq _) | (with_reducible exact nble _) | (with_reducible exact seq_rfl _) | (with_reducible assumption) | (simp only [decide_eq_true_eq, Bool.and_eq_true, beq_iff_eq, Bool.true_and, Bool.and_true, Nat.beq_eq, Nat.ble_eq, true_and, and_true, ge_iff_le, gt_iff_lt]; first | done | omega)))))
  · exact ⟨rfl, hK x.n x.tk hx⟩

end Go.Proofs.YtpdkchpjekglaaaGreat.Sx
/- window: a number is taken. No condition. -/
namespace Go.Proofs.YtpdkchpjekglaaaGreat.Sx
open Go Go.Proofs
set_option maxRecDepth 100000
set_option linter.unusedSimpArgs false
set_option linter.unusedVariables false

def allT : Value → SV := fun _ => .v (.bool true)
def wtSh (z : Int) (k : Nat) (x : Int × List Int) : St := ⟨[(0, .ptr 0 0)], 65, [.cells true [.v (.int .i64 z), .v (.int .i64 x.1), .mp 1], .map true true (.i .i64 x.2) allT], [], 2⟩
def wtI (z b s : Int) (bk : List Int) : Nat → St → LK := fun _ _ => .gh (Int × List Int) (insI bk s).length (b, insI bk s)
  (fun k x => (b ≤ x.1 ∧ x.1 ≤ b + k ∧ x.2.length + k ≤ (insI bk s).length) ∧ (∀ y ∈ x.2, y ∈ insI bk s) ∧ ∀ i, b ≤ i → i < x.1 → i ∈ insI bk s) (wtSh z)
theorem wtake_vf (z b s : Int) (bk : List Int) (K : SV → List Blk → List Nat → Prop) : vf Tryz.prog [] (wtI z b s bk) Tryz.f48 [.ptr 0 0, .v (.int .i64 s)] [.cells true [.v (.int .i64 z), .v (.int .i64 b), .mp 1], .map true true (.i .i64 bk) allT] K =
  (bc (bif false then true else decide (s < b)) (K (SV.v (Value.bool false)) [Blk.cells true [SV.v (Value.int IntKind.i64 z), SV.v (Value.int IntKind.i64 b), SV.mp (1 : Nat)], Blk.map true true (KS.i IntKind.i64 bk) allT] []) (bc (bif false then true else decide (IntKind.i64.wrap (s - b) ≥ z)) (K (SV.v (Value.bool false)) [Blk.cells true [SV.v (Value.int IntKind.i64 z), SV.v (Value.int IntKind.i64 b), SV.mp (1 : Nat)], Blk.map true true (KS.i IntKind.i64 bk) allT] []) (bc (bif false then true else bif hasK (KS.i IntKind.i64 bk) (Ky.i IntKind.i64 s) then true else false) (K (SV.v (Value.bool false)) [Blk.cells true [SV.v (Value.int IntKind.i64 z), SV.v (Value.int IntKind.i64 b), SV.mp (1 : Nat)], Blk.map true true (KS.i IntKind.i64 bk) allT] []) (((b ≤ (b, insI bk s).fst ∧ (b, insI bk s).fst ≤ b + (0 : Int) ∧ (b, insI bk s).snd.length + (0 : Nat) ≤ (insI bk s).length) ∧ (∀ (y : Int), y ∈ (b, insI bk s).snd → y ∈ insI bk s) ∧ ∀ (i : Int), b ≤ i → i < (b, insI bk s).fst → i ∈ insI bk s) ∧ ob true (ob true (ob true (ob (z == z) (ob (b == (b, insI bk s).fst) (ob true (ob true (ob (insI bk s == (b, insI bk s).snd) ((∀ (y : Value), y ∈ (KS.i IntKind.i64 (b, insI bk s).snd).vals → true = true ∧ (bif keq (Value.int IntKind.i64 s) y then true else true) = true) ∧ ∀ (k : Nat), k ≤ (insI bk s).length → ∀ (x : Int × List Int), ((b ≤ x.fst ∧ x.fst ≤ b + (↑k : Int) ∧ x.snd.length + k ≤ (insI bk s).length) ∧ (∀ (y : Int), y ∈ x.snd → y ∈ insI bk s) ∧ ∀ (i : Int), b ≤ i → i < x.fst → i ∈ insI bk s) → bc (bif hasK (KS.i IntKind.i64 x.snd) (Ky.i IntKind.i64 x.fst) then true else false) (k < (insI bk s).length ∧ ∃ (x' : Int × List Int), ((b ≤ x'.fst ∧ x'.fst ≤ b + (↑(k + (1 : Nat)) : Int) ∧ x'.snd.length + (k + (1 : Nat)) ≤ (insI bk s).length) ∧ (∀ (y : Int), y ∈ x'.snd → y ∈ insI bk s) ∧ ∀ (i : Int), b ≤ i → i < x'.fst → i ∈ insI bk s) ∧ ob true (ob true (ob true (ob (z == z) (ob (IntKind.i64.wrap (x.fst + (1 : Int)) == x'.fst) (ob true (ob true (ob (delI x.snd x.fst == x'.snd) ((∀ (y : Value), y ∈ (KS.i IntKind.i64 x'.snd).vals → true = true ∧ true = true) ∧ True))))))))) (K (SV.v (Value.bool true)) [Blk.cells true [SV.v (Value.int IntKind.i64 z), SV.v (Value.int IntKind.i64 x.fst), SV.mp (1 : Nat)], Blk.map true true (KS.i IntKind.i64 x.snd) allT] []))))))))))))) := by kernel_rfl
/-- What a window is behind a number was given to it. -/
def winP (b s : Int) (bk : List Int) (f : Bool) (b' : Int) (bk' : List Int) : Prop :=
  b ≤ b' ∧ (∀ y ∈ bk', y ∈ bk ∨ (f = true ∧ y = s)) ∧ (∀ i, b ≤ i → i < b' → i ∈ bk ∨ (f = true ∧ i = s)) ∧ (f = false → b' = b)
def wtakeS : Spec := .m fun args blks K => match args, blks with
  | [.ptr 0 0, .v (.int .i64 s)], [.cells true [.v (.int .i64 z), .v (.int .i64 b), .mp 1], .map true true (.i .i64 bk) g] => g = allT ∧ ob (decide (bk.length ≤ 1000) && (decide (0 ≤ b) && decide (b < 1000000)))
      (∀ (f : Bool) (b' : Int) (bk' : List Int), winP b s bk f b' bk' ∧ bk'.length ≤ bk.length + 1 → K (.v (.bool f)) [.cells true [.v (.int .i64 z), .v (.int .i64 b'), .mp 1], .map true true (.i .i64 bk') allT] [])
  | _, _ => False
theorem insI_or {l : List Int} {x y : Int} (h : y ∈ insI l x) : y ∈ l ∨ y = x := by
  unfold insI at h
  split at h
  · exact .inl h
  · rcases List.mem_append.1 h with h | h
    · exact .inl h
    · simp at h; exact .inr h
theorem insI_len (l : List Int) (x : Int) : (insI l x).length ≤ l.length + 1 := by
  unfold insI; split <;> simp
theorem wtakeS_ok : SpecOK Tryz.prog 48 wtakeS := by
  refine m_of mixed .nil Tryz.func48 rfl rfl fun args blks K h => ?_
  split at h
  case h_2 => exact h.elim
  rename_i s z b bk g
  obtain ⟨rfl, h⟩ := h
  rw [ob_iff] at h
  simp only [Bool.and_eq_true, decide_eq_true_eq] at h
  obtain ⟨⟨hl, hb0, hb1⟩, hK⟩ := h
  refine ⟨wtI z b s bk, 2, ?_⟩
  rw [wtake_vf]
  have hno : winP b s bk false b bk ∧ bk.length ≤ bk.length + 1 := ⟨⟨by omega, fun y hy => .inl hy, fun i h1 h2 => absurd h1 (by omega), fun _ => rfl⟩, by omega⟩
  refine bc_mk (fun _ => ⟨rfl, hK false b bk hno⟩) (fun _ => bc_mk (fun _ => ⟨rfl, hK false b bk hno⟩) (fun _ => bc_mk (fun _ => ⟨rfl, hK false b bk hno⟩) (fun _ => ?_)))
  have hil := insI_len bk s
  refine ⟨⟨⟨by dsimp only; omega, by dsimp only; omega, by dsimp only; omega⟩, fun y hy => hy, fun i h1 h2 => absurd h1 (by dsimp only at h2; omega)⟩, ?_⟩
  (repeat (first | (with_reducible refine ob_true ?_) | refine ob_mk (by first | (with_reducible exact beq_self_eq_true _) | (with_reducible exact nbeq _) | (with_reducible exact nble _) | (with_reducible exact seq_rfl _) | (with_reducible assumption) | (simp only [decide_eq_true_eq, Bool.and_eq_true, beq_iff_eq, Bool.true_and, Bool.and_true, Nat.beq_eq, Nat.ble_eq, true_and, and_true, ge_iff_le, gt_iff_lt]; first | done | omega)) ?_))
  refine ⟨fun y _ => ⟨rfl, by cases keq (Value.int IntKind.i64 s) y <;> rfl⟩, ?_⟩
  intro k hk ⟨b', bk'⟩ ⟨⟨h1, h2, h3⟩, h4, h5⟩
  dsimp only at h1 h2 h3 h4 h5 ⊢
  refine bc_mk (fun hh => ?_) (fun hh => ?_)
  · have hin : b' ∈ bk' := by
      cases hq : hasK (KS.i IntKind.i64 bk') (Ky.i IntKind.i64 b') with
      | true => exact hasI_iff.1 hq
      | false => rw [hq] at hh; cases hh
    have hpos : 1 ≤ bk'.length := List.length_pos_of_mem hin
    have hel : (delI bk' b').length = bk'.length - 1 := List.length_erase_of_mem hin
    refine ⟨by omega, (b' + 1, delI bk' b'), ⟨⟨by dsimp only; omega, by dsimp only; omega, by dsimp only; omega⟩, fun y hy => h4 y (List.mem_of_mem_erase hy), fun i g1 g2 => ?_⟩, ?_⟩
    · dsimp only at g2
      by_cases e : i = b'
      · subst e; exact h4 i hin
      · exact h5 i g1 (by omega)
    · rw [wrap_i64 _ (by omega) (by omega)]
      (repeat (first | (with_reducible refine ob_true ?_) | refine ob_mk (by first | (with_reducible exact beq_self_eq_true _) | (with_reducible exact nbeq _) | (with_reducible exact nble _) | (with_reducible exact seq_rfl _) | (with_reducible assumption) | (simp only [decide_eq_true_eq, Bool.and_eq_true, beq_iff_eq, Bool.true_and, Bool.and_true, Nat.beq_eq, Nat.ble_eq, true_and, and_true, ge_iff_le, gt_iff_lt]; first | done | omega)) ?_))
      exact ⟨fun _ _ => ⟨rfl, rfl⟩, trivial⟩
  · refine ⟨rfl, hK true b' bk' ⟨⟨h1, fun y hy => (insI_or (h4 y hy)).imp_right fun e => ⟨rfl, e⟩, fun i g1 g2 => (insI_or (h5 i g1 g2)).imp_right fun e => ⟨rfl, e⟩, fun e => by cases e⟩, by omega⟩⟩

end Go.Proofs.YtpdkchpjekglaaaGreat.Sx
