/- TopLinks: empty pipes and pools, what holds of both ends, the pool in step with its reference. No condition. -/
import Derived.Test.YtpdkchpjekglaaaGreatSx13
import Derived.Test.YtpdkchpjekglaaaGreatProg
import Derived.Test.YtpdkchpjekglaaaGreatBase
import Derived.Test.YtpdkchpjekglaaaGreatMA
import Derived.Test.YtpdkchpjekglaaaGreatMC
import Derived.Test.YtpdkchpjekglaaaGreatME
import Derived.Test.YtpdkchpjekglaaaGreatMB
import Derived.Test.YtpdkchpjekglaaaGreatMD
import Derived.Test.YtpdkchpjekglaaaGreatMF
/- TopLinks: an empty pipe. No condition. -/
namespace Go.Proofs.YtpdkchpjekglaaaGreat.Sx
open Go Go.Proofs
set_option maxRecDepth 100000
set_option linter.unusedSimpArgs false
set_option linter.unusedVariables false

theorem wnew_ok : SpecOK Tryz.prog 32 (inl Tryz.prog [(76, inl Tryz.prog [] noI Tryz.f76)] noI Tryz.f32) := inl_ok mixed (.cons (inl_ok mixed .nil Tryz.func76 rfl rfl) .nil) Tryz.func32 rfl rfl
theorem tnew_ok : SpecOK Tryz.prog 33 (inl Tryz.prog [(76, inl Tryz.prog [] noI Tryz.f76)] noI Tryz.f33) := inl_ok mixed (.cons (inl_ok mixed .nil Tryz.func76 rfl rfl) .nil) Tryz.func33 rfl rfl
theorem ppnew_vf  (K : SV → List Blk → List Nat → Prop) : vf Tryz.prog [(32, inl Tryz.prog [(76, inl Tryz.prog [] noI Tryz.f76)] noI Tryz.f32), (33, inl Tryz.prog [(76, inl Tryz.prog [] noI Tryz.f76)] noI Tryz.f33)] (noI) Tryz.f5 [.v (.int .i64 8)] [] K =
  (K (SV.ptr (5 : Nat) (0 : Nat)) [Blk.map true true (KS.i IntKind.i64 []) fun (x : Value) => SV.v (Value.bool false), Blk.cells true [SV.v (Value.int IntKind.i64 (64 : Int)), SV.v (Value.int IntKind.i64 (0 : Int)), SV.mp (0 : Nat)], Blk.map true true (KS.i IntKind.i64 []) fun (x : Value) => SV.agg [SV.v (Value.int IntKind.i64 (0 : Int)), SV.v (Value.int IntKind.i64 (0 : Int))], Blk.cells true [SV.v (Value.int IntKind.i64 (8 : Int)), SV.mp (2 : Nat)], Blk.map true true (KS.i IntKind.i64 []) fun (x : Value) => SV.v (Value.string (ByteArray.mk (Array.mk []))), Blk.cells true [SV.ptr (1 : Nat) (0 : Nat), SV.v (Value.int IntKind.i64 (8 : Int)), SV.v (Value.int IntKind.i64 (0 : Int)), SV.v (Value.slice none (0 : Nat) (0 : Nat)), SV.ptr (3 : Nat) (0 : Nat), SV.mp (4 : Nat), SV.v (Value.slice none (0 : Nat) (0 : Nat)), SV.v (Value.bool false)]] []) := by kernel_rfl
/-- A pipe's memory in the order in which it is made: pipe, window, timer, held, beyond, times, open, told; from a block on. -/
def PS.at (p : PS) (o : Nat) : List Blk :=
  [.cells true [.ptr (o + 1) 0, .v (.int .i64 p.room), .v (.int .i64 p.sent), .slc (o + 6) 0 p.n p.n 3, .ptr (o + 2) 0, .mp (o + 3), .slc (o + 7) 0 p.m p.m 1, .v (.bool p.owe)],
   .cells true [.v (.int .i64 64), .v (.int .i64 p.base), .mp (o + 4)],
   .cells true [.v (.int .i64 p.most), .mp (o + 5)],
   .map true true (.i .i64 p.hk) (heldM p.hg),
   .map true true (.i .i64 p.bk) allT,
   .map true true (.i .i64 p.tk) (waits p.wd p.we),
   .tab true p.n [.i .i64 p.os, .s p.ot, .b p.og],
   .tab true p.m [.s p.td]]
def p0 : PS := ⟨8, 0, 0, fun _ => 0, fun _ => bstr [], fun _ => false, 0, fun _ => bstr [], false, 0, [], 8, [], fun _ => 0, fun _ => 0, [], fun _ => bstr []⟩
def newPipeS : Spec := .m fun args blks K => match args, blks with
  | [.v (.int .i64 8)], [] => K (.ptr 0 0) (p0.at 0) []
  | _, _ => False
theorem newPipeS_ok : SpecOK Tryz.prog 5 newPipeS := by
  refine ⟨enters_of Tryz.func5 rfl rfl, fun args blks K h => ?_⟩
  dsimp only at h
  split at h
  case h_2 => exact h.elim
  refine FnOK.le (FnOK.keepM (FnOK.of_vf mixed (.cons wnew_ok (.cons tnew_ok .nil)) Tryz.func5 (I := noI) ((ppnew_vf _).mpr ?_)))
  refine ⟨[5, 1, 3, 4, 0, 2], [], _, by kernel_rfl, rfl, .ptr 0 0, p0.at 0, [], ⟨rfl, rfl⟩, ?_, by kernel_rfl, h⟩
  refine ⟨⟨id, ?_⟩, ⟨id, ?_⟩, ⟨id, ?_⟩, ⟨id, ⟨rfl, rfl⟩, fun y hy => (by simp [KS.vals, p0] at hy)⟩, ⟨id, ⟨rfl, rfl⟩, fun y hy => (by simp [KS.vals, p0] at hy)⟩, ⟨id, ⟨rfl, rfl⟩, fun y hy => (by simp [KS.vals, p0] at hy)⟩, trivial, trivial, trivial⟩
  · simp [preLe, SV.le, veq, p0, isNilS, SV.ren, SV.renL, pos]
  · simp [preLe, SV.le, veq, p0, isNilS, SV.ren, SV.renL, pos]
  · simp [preLe, SV.le, veq, p0, isNilS, SV.ren, SV.renL, pos]

end Go.Proofs.YtpdkchpjekglaaaGreat.Sx
/- TopLinks: an empty pool; its length. No condition. -/
namespace Go.Proofs.YtpdkchpjekglaaaGreat.Sx
open Go Go.Proofs
set_option maxRecDepth 100000
set_option linter.unusedSimpArgs false
set_option linter.unusedVariables false

def r0 : RT := ⟨0, fun _ => 0, fun _ => 0, fun _ => 0, fun _ => 0, fun _ => bstr [], fun _ => bstr []⟩
def R0 : Nat → RT := fun _ => r0
theorem pnew_vf  (K : SV → List Blk → List Nat → Prop) : vf Tryz.prog [] (noI) Tryz.f13 [] [] K =
  (K (SV.ptr (2 : Nat) (0 : Nat)) [Blk.map true false (KS.i IntKind.i64 []) fun (x : Value) => SV.v (Value.slice none (0 : Nat) (0 : Nat)), Blk.map true true (KS.i IntKind.i64 []) fun (x : Value) => SV.v (Value.int IntKind.i64 (0 : Int)), Blk.cells true [SV.mp (0 : Nat), SV.mp (1 : Nat), SV.v (Value.int IntKind.i64 (0 : Int))]] []) := by kernel_rfl
def newPoolS : Spec := .m fun args blks K => match args, blks with
  | [], [] => K (.ptr 0 0) (poolT R0 0) []
  | _, _ => False
theorem newPoolS_ok : SpecOK Tryz.prog 13 newPoolS := by
  refine ⟨enters_of Tryz.func13 rfl rfl, fun args blks K h => ?_⟩
  dsimp only at h
  split at h
  case h_2 => exact h.elim
  refine FnOK.le (FnOK.keepM (FnOK.of_vf mixed .nil Tryz.func13 (I := noI) ((pnew_vf _).mpr ?_)))
  refine ⟨[2, 0, 1], [], _, by kernel_rfl, rfl, .ptr 0 0, poolT R0 0, [], ⟨rfl, rfl⟩, ?_, by kernel_rfl, h⟩
  refine ⟨⟨id, ?_⟩, ⟨id, ⟨rfl, fun x _ => rfl, fun x hx => by cases hx⟩, fun y hy => ⟨fun h => Bool.noConfusion h, ?_⟩⟩, ⟨id, ⟨rfl, rfl⟩, fun y hy => (by simp [KS.vals] at hy)⟩, trivial, trivial, trivial, trivial, trivial, trivial, trivial, trivial, trivial, trivial, trivial, trivial, trivial, trivial, trivial, trivial, trivial⟩
  · simp [preLe, SV.le, veq, isNilS, SV.ren, SV.renL, pos]
  · obtain ⟨z, hz, rfl⟩ := List.mem_map.1 hy
    exact ⟨rfl, rfl⟩
theorem plen_ok : SpecOK Tryz.prog 18 (inl Tryz.prog [] noI Tryz.f18) := inl_ok mixed .nil Tryz.func18 rfl rfl

end Go.Proofs.YtpdkchpjekglaaaGreat.Sx
/- TopLinks: what holds of the two ends between calls; the calls told by it. No condition. -/
namespace Go.Proofs.YtpdkchpjekglaaaGreat.Sx
open Go Go.Proofs
set_option maxRecDepth 100000
set_option linter.unusedSimpArgs false
set_option linter.unusedVariables false

def invA (q : Nat) (st : Nat → ByteArray) (p : PS) : Prop := q ≤ 1000 ∧ p.sent = (q : Int) ∧ p.n ≤ q ∧ (∀ r, r < p.n → 0 ≤ p.os r ∧ p.os r < q ∧ p.ot r = st (p.os r).toNat) ∧ (∀ j, j < q → (st j).size ≤ 4000) ∧ p.m = 0 ∧ p.base = 0 ∧ p.bk = [] ∧ tkOK p.tk = true ∧ p.most ≤ 64
def frOK (q : Nat) (st : Nat → ByteArray) (y : ByteArray) : Prop := ∃ (n u : Int) (t : ByteArray), y = frB n u t ∧ ((n = -1 ∧ t.size = 0) ∨ (0 ≤ n ∧ n < q ∧ t = st n.toNat)) ∧ 0 ≤ u ∧ u < 1000000
def invB (q : Nat) (st : Nat → ByteArray) (c : Nat) (p : PS) : Prop := q ≤ 1000 ∧ p.n = 0 ∧ p.base = (p.m : Int) ∧ p.m ≤ q ∧ (∀ j, j < p.m → p.td j = st j) ∧ (∀ y ∈ p.bk, 0 ≤ y ∧ y < q ∧ (p.base ≤ y → y ∈ p.hk)) ∧ (∀ y ∈ p.hk, 0 ≤ y ∧ y < q ∧ p.hg (.int .i64 y) = st y.toNat) ∧ p.bk.length ≤ c ∧ (∀ j, j < q → (st j).size ≤ 4000) ∧ tkOK p.tk = true ∧ p.most ≤ 64
theorem spec_weak {P : Program} {f : FuncId} {g g' : List SV → List Blk → (SV → List Blk → List Nat → Prop) → Prop} (h : SpecOK P f (.m g)) (hg : ∀ args blks K, g' args blks K → g args blks K) : SpecOK P f (.m g') :=
  ⟨h.1, fun args blks K hh => h.2 args blks K (hg args blks K hh)⟩
/-- Send, of the first end. -/
def sendL : Spec := .m fun args blks K => match args with
  | [.ptr 0 0, .v (.string s)] => ∃ (q : Nat) (st : Nat → ByteArray) (p : PS), blks = p.tbl true ∧ invA q st p ∧ q ≤ 900 ∧
      ((∀ e : Int, e ≠ 0 → K (.v (.int .i64 e)) (p.tbl true) []) ∧ (s.size ≤ 4000 → ∀ p' : PS, invA (q + 1) (upF st q s) p' → K (.v (.int .i64 0)) (p'.tbl true) [2]))
  | _ => False
theorem upF_at {α : Type} (f : Nat → α) (r : Nat) (x : α) : upF f r x r = x := by unfold upF; rw [Nat.beq_refl]; rfl
theorem upF_ne {α : Type} (f : Nat → α) {r q : Nat} (x : α) (h : q ≠ r) : upF f r x q = f q := by
  unfold upF
  cases hb : Nat.beq q r with
  | false => rfl
  | true => exact absurd (Nat.eq_of_beq_eq_true hb) h
theorem invA_send {q : Nat} {st : Nat → ByteArray} {p : PS} {s : ByteArray} (h : invA q st p) (hq : q ≤ 900) (hs : s.size ≤ 4000) : invA (q + 1) (upF st q s) (p.send s) := by
  rw [invA] at h ⊢
  obtain ⟨h0, h1, h2, h3, h4, h5, h6, h7, h8, h9⟩ := h
  refine ⟨by omega, ?_, by simp only [PS.send]; omega, fun r hr => ?_, fun j hj => ?_, h5, h6, h7, h8, h9⟩
  · simp only [PS.send]
    rw [h1, wrap_i64 _ (by omega) (by omega)]; omega
  · simp only [PS.send] at hr ⊢
    by_cases e : r = p.n
    · subst e
      rw [upF_at, upF_at, h1]
      refine ⟨by omega, by omega, ?_⟩
      rw [show ((q : Int)).toNat = q from by omega, upF_at]
    · rw [upF_ne _ _ e, upF_ne _ _ e]
      obtain ⟨g1, g2, g3⟩ := h3 r (by omega)
      refine ⟨g1, by omega, ?_⟩
      rw [upF_ne _ _ (by omega), g3]
  · by_cases e : j = q
    · subst e; rw [upF_at]; exact hs
    · rw [upF_ne _ _ e]; exact h4 j (by omega)
theorem sendL_ok : SpecOK Tryz.prog 8 sendL := by
  refine spec_weak sendS_ok fun args blks K h => ?_
  split at h
  case h_2 => exact h.elim
  rename_i s
  obtain ⟨q, st, p, rfl, hA, hq, hK1, hK2⟩ := h
  have hA' := hA
  rw [invA] at hA'
  refine ⟨p, rfl, ob_mk (decide_eq_true (by omega)) ⟨hK1, fun hs => hK2 hs _ (invA_send hA hq hs)⟩⟩
def ackOK (y : ByteArray) : Prop := ∃ (u : Int) (t : ByteArray), y = frB (-1) u t ∧ t.size = 0 ∧ 0 ≤ u ∧ u < 1000000
/-- Poll, of either end. -/
def pollL : Spec := .m fun args blks K => match args with
  | [.ptr 0 0, .v (.int .i64 now)] => (∃ (q : Nat) (st : Nat → ByteArray) (p : PS), blks = p.tbl true ∧ invA q st p ∧ ob (decide (0 ≤ now) && decide (now ≤ 1099511627776))
      (∀ (p' : PS) (m : Nat) (f : Nat → ByteArray), invA q st p' → m ≤ q + 1 ∧ (∀ j, j < m → frOK q st (f j)) → K (.slc 8 0 m m 1) (p'.tbl true ++ [.tab true m [.s f]]) [])) ∨
    (∃ (q : Nat) (st : Nat → ByteArray) (c : Nat) (p : PS), blks = p.tbl true ∧ invB q st c p ∧ ob (decide (0 ≤ now) && decide (now ≤ 1099511627776))
      (∀ (p' : PS) (m : Nat) (f : Nat → ByteArray), invB q st c p' → m ≤ 1 ∧ (∀ j, j < m → ackOK (f j)) → K (.slc 8 0 m m 1) (p'.tbl true ++ [.tab true m [.s f]]) []))
  | _ => False
theorem pollL_ok : SpecOK Tryz.prog 9 pollL := by
  refine spec_weak pollS_ok fun args blks K h => ?_
  split at h
  case h_2 => exact h.elim
  rename_i now
  rcases h with ⟨q, st, p, rfl, hA, h⟩ | ⟨q, st, c, p, rfl, hB, h⟩
  · rw [ob_iff] at h
    obtain ⟨hn, hK⟩ := h
    simp only [Bool.and_eq_true, decide_eq_true_eq] at hn
    have hA' := hA
    rw [invA] at hA'
    obtain ⟨h0, h1, h2, h3, h4, h5, h6, h7, h8, h9⟩ := hA'
    refine ⟨p, rfl, ob_mk (by simp [hn, h8, h9]; omega) ⟨fun r hr => ?_, fun owe x hx => ?_⟩⟩
    · obtain ⟨g1, g2, g3⟩ := h3 r hr
      exact ⟨⟨g1, by omega⟩, by rw [g3]; exact h4 _ (by omega)⟩
    · obtain ⟨hx1, hx2, hx3⟩ := hx
      refine hK _ x.q x.f ?_ ⟨by omega, fun j hj => ?_⟩
      · rw [invA]
        exact ⟨h0, h1, h2, h3, h4, h5, h6, h7, hx1, h9⟩
      · have := hx3 j hj
        rw [isFr] at this
        rw [frOK]
        rcases this with ⟨r, hr, e⟩ | e
        · obtain ⟨g1, g2, g3⟩ := h3 r hr
          exact ⟨p.os r, p.base, p.ot r, e, .inr ⟨g1, g2, g3⟩, by omega, by omega⟩
        · exact ⟨-1, p.base, bstr [], e, .inl ⟨rfl, by simp [bstr_size]⟩, by omega, by omega⟩
  · rw [ob_iff] at h
    obtain ⟨hn, hK⟩ := h
    simp only [Bool.and_eq_true, decide_eq_true_eq] at hn
    have hB' := hB
    rw [invB] at hB'
    obtain ⟨h0, h1, h2, h3, h4, h5, h6, h7, h8, h9, h10⟩ := hB'
    refine ⟨p, rfl, ob_mk (by simp [hn, h9, h10]; omega) ⟨fun r hr => by omega, fun owe x hx => ?_⟩⟩
    obtain ⟨hx1, hx2, hx3⟩ := hx
    refine hK _ x.q x.f ?_ ⟨by omega, fun j hj => ?_⟩
    · rw [invB]
      exact ⟨h0, h1, h2, h3, h4, h5, h6, h7, h8, hx1, h10⟩
    · have := hx3 j hj
      rw [isFr] at this
      rw [ackOK]
      rcases this with ⟨r, hr, e⟩ | e
      · omega
      · exact ⟨p.base, bstr [], e, by simp [bstr_size], by omega, by omega⟩
theorem spec_weakM {P : Program} {f : FuncId} {g g' : List SV → List Blk → (SV → List Blk → List Nat → Prop) → Prop} (h : SpecOK P f (.m g)) (hg : ∀ args blks K, g' args blks K → g args blks fun s t m => ∃ m', subB m m' = true ∧ K s t m') : SpecOK P f (.m g') :=
  ⟨h.1, fun args blks K hh => FnOK.mvs (h.2 args blks _ (hg args blks K hh))⟩
theorem mem_insI {l : List Int} {x y : Int} (h : y ∈ l) : y ∈ insI l x := by
  unfold insI
  split
  · exact h
  · exact List.mem_append_left _ h
theorem insI_self (l : List Int) (x : Int) : x ∈ insI l x := by
  unfold insI
  split
  · rename_i h; exact hasI_iff.1 h
  · simp
/-- Take, of either end. -/
def takeL : Spec := .m fun args blks K => match args with
  | [.ptr 0 0, .v (.string x)] => (∃ (q : Nat) (st : Nat → ByteArray) (p : PS), blks = p.tbl true ∧ invA q st p ∧ ackOK x ∧ (∀ p' : PS, invA q st p' → K (.v (.int .i64 0)) (p'.tbl true) [])) ∨
    (∃ (q : Nat) (st : Nat → ByteArray) (c : Nat) (p : PS), blks = p.tbl true ∧ invB q st c p ∧ frOK q st x ∧ c ≤ 900 ∧ (∀ p' : PS, invB q st (c + 1) p' → K (.v (.int .i64 0)) (p'.tbl true) [5]))
  | _ => False
theorem takeL_ok : SpecOK Tryz.prog 10 takeL := by
  refine spec_weakM takeS_ok fun args blks K h => ?_
  split at h
  case h_2 => exact h.elim
  rename_i x
  rcases h with ⟨q, st, p, rfl, hA, hx, hK⟩ | ⟨q, st, c, p, rfl, hB, hx, hc, hK⟩
  · rw [ackOK] at hx
    obtain ⟨u, t, hx, ht, hu0, hu1⟩ := hx
    rw [invA] at hA
    obtain ⟨h0, h1, h2, h3, h4, h5, h6, h7, h8, h9⟩ := hA
    refine ⟨p, -1, u, t, rfl, hx, fun _ => ht, ob_mk ?_ ⟨fun _ tk' m os' ot' og' htk hm => ?_, fun hn => absurd hn (by omega)⟩⟩
    · simp [h8, h7, h6, h5, ht]; omega
    · refine ⟨[], rfl, hK { p with n := m, os := os', ot := ot', og := og', tk := tk' } ?_⟩
      rw [invA]
      refine ⟨h0, h1, by dsimp only; omega, fun r hr => ?_, h4, h5, h6, h7, htk, h9⟩
      obtain ⟨j, hj, e1, e2, e3⟩ := hm.2 r hr
      dsimp only
      rw [e1, e2]
      exact h3 j hj
  · rw [frOK] at hx
    obtain ⟨n, u, t, hx, hnt, hu0, hu1⟩ := hx
    rw [invB] at hB
    obtain ⟨h0, h1, h2, h3, h4, h5, h6, h7, h8, h9, h10⟩ := hB
    have htz : t.size ≤ 4000 := by
      rcases hnt with ⟨_, h⟩ | ⟨g1, g2, g3⟩
      · omega
      · rw [g3]; exact h8 _ (by omega)
    have hall : (p.bk.all fun y => decide (y < 1000000)) = true := by
      rw [List.all_eq_true]
      intro y hy
      have := h5 y hy
      exact decide_eq_true (by omega)
    refine ⟨p, n, u, t, rfl, hx, fun hn => by omega, ob_mk ?_ ⟨fun hn tk' m os' ot' og' htk hm => ?_, fun hn tk' m os' ot' og' f b' bk' hk' td' k htk hm hw hb hq => ?_⟩⟩
    · rw [hall]; simp [h9]; omega
    · refine ⟨[5], rfl, hK { p with n := m, os := os', ot := ot', og := og', tk := tk' } ?_⟩
      rw [invB]
      exact ⟨h0, by dsimp only; omega, h2, h3, h4, h5, h6, by dsimp only; omega, h8, htk, h10⟩
    · refine ⟨[5], rfl, hK { p with n := m, os := os', ot := ot', og := og', m := p.m + k, td := td', owe := true, base := b', bk := bk', tk := tk', hk := hk', hg := hgN f n t p.hg } ?_⟩
      obtain ⟨hn0, hn1, ht⟩ : 0 ≤ n ∧ n < q ∧ t = st n.toNat := by
        rcases hnt with ⟨h, _⟩ | h
        · omega
        · exact h
      obtain ⟨⟨w1, w2, w3, w4⟩, w5⟩ := hw
      rw [tkQ_def] at hq
      obtain ⟨q1, q2, q3, q4⟩ := hq
      have hin : ∀ y, y ∈ p.hk → y ∈ cond f (insI p.hk n) p.hk := fun y hy => by
        cases f with
        | false => exact hy
        | true => exact mem_insI hy
      have hinn : f = true → n ∈ cond f (insI p.hk n) p.hk := fun hf => by
        subst hf
        exact insI_self _ _
      have hval : ∀ y, y ∈ cond f (insI p.hk n) p.hk → 0 ≤ y ∧ y < q ∧ hgN f n t p.hg (.int .i64 y) = st y.toNat := fun y hy => by
        unfold hgN
        by_cases e : f = true ∧ y = n
        · obtain ⟨rfl, rfl⟩ := e
          rw [show keq (.int .i64 y) (.int .i64 y) = true from keq_self (.i .i64 y)]
          exact ⟨hn0, hn1, ht⟩
        · have hk : y ∈ p.hk := by
            cases f with
            | false => exact hy
            | true =>
              rcases insI_or hy with h | h
              · exact h
              · exact absurd ⟨rfl, h⟩ e
          have hkq : (f && keq (.int .i64 n) (.int .i64 y)) = false := by
            cases f with
            | false => rfl
            | true =>
              cases hb : keq (.int .i64 n) (.int .i64 y) with
              | false => rfl
              | true =>
                have := keq_iff hb
                simp at this
                exact absurd ⟨rfl, this.symm⟩ e
          rw [hkq]
          exact h6 y hk
      have hbk : ∀ i, p.base ≤ i → i < b' → i ∈ cond f (insI p.hk n) p.hk := fun i hi1 hi2 => by
        rcases w3 i hi1 hi2 with h | ⟨h, e⟩
        · exact hin i ((h5 i h).2.2 hi1)
        · rw [e]; exact hinn h
      rw [invB]
      refine ⟨h0, by dsimp only; omega, by dsimp only; omega, ?_, fun j hj => ?_, fun y hy => ?_, fun y hy => hval y (q3 y hy), by dsimp only; omega, h8, htk, h10⟩
      · dsimp only
        rcases Nat.eq_zero_or_pos k with hk0 | hk0
        · omega
        · have := hval (b' - 1) (hbk (b' - 1) (by omega) (by omega))
          omega
      · dsimp only at hj ⊢
        rcases Nat.lt_or_ge j p.m with hjm | hjm
        · rw [q1 j hjm]; exact h4 j hjm
        · obtain ⟨d, rfl⟩ := Nat.exists_eq_add_of_le hjm
          have hi := hbk (p.base + d) (by omega) (by omega)
          rw [q2 d (by omega)]
          show lkH _ (fun v => .v (.string (hgN f n t p.hg v))) _ = _
          rw [lkH_str, hasI_iff.2 hi]
          show hgN f n t p.hg (.int .i64 (p.base + d)) = _
          rw [(hval _ hi).2.2]
          congr 1
          omega
      · dsimp only at hy ⊢
        rcases w2 y hy with h | ⟨hf, e⟩
        · obtain ⟨g1, g2, g3⟩ := h5 y h
          exact ⟨g1, g2, fun hb' => q4 y (hin y (g3 (by omega))) (.inr (by omega))⟩
        · subst e
          exact ⟨hn0, hn1, fun hb' => q4 y (hinn hf) (.inr (by omega))⟩
theorem invA_0 (st : Nat → ByteArray) : invA 0 st p0 := by
  rw [invA]
  exact ⟨by omega, rfl, Nat.le_refl _, fun r hr => absurd hr (Nat.not_lt_zero r), fun j hj => absurd hj (Nat.not_lt_zero j), rfl, rfl, rfl, rfl, by show (8 : Int) ≤ 64; omega⟩
theorem invB_0 (st : Nat → ByteArray) : invB 0 st 0 p0 := by
  rw [invB]
  exact ⟨by omega, rfl, rfl, Nat.le_refl _, fun j hj => absurd hj (Nat.not_lt_zero j), fun y hy => (by simp [p0] at hy), fun y hy => (by simp [p0] at hy), Nat.le_refl _, fun j hj => absurd hj (Nat.not_lt_zero j), rfl, by show (8 : Int) ≤ 64; omega⟩
theorem invB_send {q c : Nat} {st : Nat → ByteArray} {p : PS} {s : ByteArray} (h : invB q st c p) (hq : q ≤ 900) (hs : s.size ≤ 4000) : invB (q + 1) (upF st q s) c p := by
  rw [invB] at h ⊢
  obtain ⟨h0, h1, h2, h3, h4, h5, h6, h7, h8, h9, h10⟩ := h
  refine ⟨by omega, h1, h2, by omega, fun j hj => ?_, fun y hy => ?_, fun y hy => ?_, h7, fun j hj => ?_, h9, h10⟩
  · rw [upF_ne _ _ (by omega)]; exact h4 j hj
  · obtain ⟨g1, g2, g3⟩ := h5 y hy
    exact ⟨g1, by omega, g3⟩
  · obtain ⟨g1, g2, g3⟩ := h6 y hy
    exact ⟨g1, by omega, by rw [upF_ne _ _ (by omega)]; exact g3⟩
  · by_cases e : j = q
    · subst e; rw [upF_at]; exact hs
    · rw [upF_ne _ _ e]; exact h8 j (by omega)
theorem invB_more {q c c' : Nat} {st : Nat → ByteArray} {p : PS} (h : invB q st c p) (hc : c ≤ c') : invB q st c' p := by
  rw [invB] at h ⊢
  obtain ⟨h0, h1, h2, h3, h4, h5, h6, h7, h8⟩ := h
  exact ⟨h0, h1, h2, h3, h4, h5, h6, by omega, h8⟩

end Go.Proofs.YtpdkchpjekglaaaGreat.Sx
/- TopLinks: the pool's rows and the reference's rows go in step. Plain law. No condition. -/
namespace Go.Proofs.YtpdkchpjekglaaaGreat.Sx
open Go Go.Proofs
set_option maxRecDepth 100000
set_option linter.unusedSimpArgs false
set_option linter.unusedVariables false

def relPR (r : RT) (R : Nat → RT) : Prop := r.n ≤ 32 ∧ ∀ c : Nat, c < 16 → risR (R c) ∧ ((R c).n : Int) = ownN r c r.n ∧ (R c).n ≤ 4 ∧ ∀ s : Int, anyR r c s r.n = true ↔ ∃ i, i < (R c).n ∧ (R c).s i = s
theorem own_push (r : RT) (c' s k e : Int) (n b : ByteArray) (c : Int) : ∀ m, m ≤ r.n → ownN (r.push c' s k e n b) c m = ownN r c m
  | 0, _ => by simp [ownN]
  | m + 1, h => by
    have ih := own_push r c' s k e n b c m (by omega)
    simp only [ownN]
    rw [ih, show (r.push c' s k e n b).c m = r.c m from upF_ne _ _ (by omega)]
theorem any_push (r : RT) (c' s k e : Int) (n b : ByteArray) (c t : Int) : ∀ m, m ≤ r.n → anyR (r.push c' s k e n b) c t m = anyR r c t m
  | 0, _ => by simp [anyR]
  | m + 1, h => by
    have ih := any_push r c' s k e n b c t m (by omega)
    simp only [anyR]
    rw [ih, show (r.push c' s k e n b).c m = r.c m from upF_ne _ _ (by omega), show (r.push c' s k e n b).s m = r.s m from upF_ne _ _ (by omega)]
theorem insF_lt {α : Type} (f : Nat → α) {i q : Nat} (x : α) (h : q < i) : insF f i x q = f q := by
  unfold insF
  rw [show Nat.blt q i = true from by simpa [Nat.blt_eq] using h]; rfl
theorem insF_at {α : Type} (f : Nat → α) (i : Nat) (x : α) : insF f i x i = x := by
  unfold insF
  rw [show Nat.blt i i = false from by cases hb : Nat.blt i i with
    | false => rfl
    | true => exact absurd (show i + 1 ≤ i from Nat.le_of_ble_eq_true hb) (by omega), Nat.beq_refl]; rfl
theorem insF_gt {α : Type} (f : Nat → α) {i q : Nat} (x : α) (h : i ≤ q) : insF f i x (q + 1) = f q := by
  unfold insF
  rw [show Nat.blt (q + 1) i = false from by cases hb : Nat.blt (q + 1) i with
    | false => rfl
    | true => exact absurd (show q + 1 + 1 ≤ i from Nat.le_of_ble_eq_true hb) (by omega), show Nat.beq (q + 1) i = false from by cases hb : Nat.beq (q + 1) i with
    | false => rfl
    | true => exact absurd (Nat.eq_of_beq_eq_true hb) (by omega)]; rfl
theorem ris_ins {r : RT} {s : Int} {i : Nat} (h : risR r) (hp : placeR r s i false) (h0 : 0 ≤ s) (h1 : s < 2147483648) (c k e : Int) (n b : ByteArray) : risR (r.ins i c s k e n b) := by
  obtain ⟨hi, hlo, hhi, hb⟩ := hp
  have hne : ¬ (i < r.n ∧ r.s i = s) := fun hh => Bool.noConfusion (hb.2 hh)
  have hgt : ∀ q, i ≤ q → q < r.n → s < r.s q := fun q h1 h2 => by
    have h3 := hhi i (Nat.le_refl _) (by omega)
    have h4 := risR_le h h1 h2
    have : r.s i ≠ s := fun e => hne ⟨by omega, e⟩
    omega
  refine ⟨fun q hq => ?_, fun q p hqp hp => ?_⟩
  · show 0 ≤ insF r.s i s q ∧ insF r.s i s q < 2147483648
    rcases Nat.lt_trichotomy q i with hh | hh | hh
    · rw [insF_lt _ _ hh]; exact h.1 q (by omega)
    · subst hh; rw [insF_at]; exact ⟨h0, h1⟩
    · obtain ⟨d, rfl⟩ : ∃ d, q = d + 1 := ⟨q - 1, by omega⟩
      rw [insF_gt _ _ (by omega)]; exact h.1 d (by simp only [RT.ins] at hq; omega)
  · show insF r.s i s q < insF r.s i s p
    simp only [RT.ins] at hp
    rcases Nat.lt_trichotomy q i with hh | hh | hh <;> rcases Nat.lt_trichotomy p i with gg | gg | gg
    · rw [insF_lt _ _ hh, insF_lt _ _ gg]; exact h.2 q p hqp (by omega)
    · subst gg; rw [insF_lt _ _ hh, insF_at]; exact hlo q hh
    · obtain ⟨d, rfl⟩ : ∃ d, p = d + 1 := ⟨p - 1, by omega⟩
      rw [insF_lt _ _ hh, insF_gt _ _ (by omega)]; exact h.2 q d (by omega) (by omega)
    · omega
    · omega
    · subst hh
      obtain ⟨d, rfl⟩ : ∃ d, p = d + 1 := ⟨p - 1, by omega⟩
      rw [insF_at, insF_gt _ _ (by omega)]; exact hgt d (by omega) (by omega)
    · omega
    · omega
    · obtain ⟨d, rfl⟩ : ∃ d, p = d + 1 := ⟨p - 1, by omega⟩
      obtain ⟨d', rfl⟩ : ∃ d, q = d + 1 := ⟨q - 1, by omega⟩
      rw [insF_gt _ _ (by omega), insF_gt _ _ (by omega)]; exact h.2 d' d (by omega) (by omega)
theorem ins_has (r : RT) (i : Nat) (hi : i ≤ r.n) (c s k e : Int) (n b : ByteArray) (t : Int) : (∃ q, q < (r.ins i c s k e n b).n ∧ (r.ins i c s k e n b).s q = t) ↔ (t = s ∨ ∃ q, q < r.n ∧ r.s q = t) := by
  show (∃ q, q < r.n + 1 ∧ insF r.s i s q = t) ↔ _
  constructor
  · rintro ⟨q, hq, rfl⟩
    rcases Nat.lt_trichotomy q i with hh | hh | hh
    · exact .inr ⟨q, by omega, (insF_lt _ _ hh).symm⟩
    · subst hh; exact .inl (insF_at _ _ _)
    · obtain ⟨d, rfl⟩ : ∃ d, q = d + 1 := ⟨q - 1, by omega⟩
      exact .inr ⟨d, by omega, (insF_gt _ _ (by omega)).symm⟩
  · rintro (rfl | ⟨q, hq, rfl⟩)
    · exact ⟨i, by omega, insF_at _ _ _⟩
    · rcases Nat.lt_or_ge q i with hh | hh
      · exact ⟨q, by omega, insF_lt _ _ hh⟩
      · exact ⟨q + 1, by omega, insF_gt _ _ hh⟩
theorem place_any {r : RT} {R : Nat → RT} (h : relPR r R) {c : Nat} (hc : c < 16) {s : Int} {i : Nat} {f : Bool} (hp : placeR (R c) s i f) : f = anyR r c s r.n := by
  rw [relPR] at h
  obtain ⟨h1, h2, h3, h4⟩ := h.2 c hc
  obtain ⟨g1, g2, g3, g4⟩ := hp
  have : f = true ↔ anyR r c s r.n = true := by
    rw [h4 s, g4]
    constructor
    · rintro ⟨a, b⟩; exact ⟨i, a, b⟩
    · rintro ⟨q, a, b⟩
      have hqi : i ≤ q := by
        rcases Nat.lt_or_ge q i with h | h
        · have := g2 q h; omega
        · exact h
      have h5 := g3 i (Nat.le_refl _) (by omega)
      have h6 := risR_le h1 hqi a
      exact ⟨by omega, by omega⟩
  cases f <;> cases ha : anyR r c s r.n <;> simp_all
theorem ref_seven {r : RT} {R : Nat → RT} (h : relPR r R) {c : Nat} (hc : c < 16) (s : Int) (hf : 4 ≤ (R c).n ∨ 32 ≤ (r.n : Int)) : refE r c s = 7 := by
  rw [relPR] at h
  obtain ⟨h1, h2, h3, h4⟩ := h.2 c hc
  unfold refE
  rw [if_pos (by omega)]
theorem ref_else {r : RT} {R : Nat → RT} (h : relPR r R) {c : Nat} (hc : c < 16) (s : Int) (hf : ¬(4 ≤ (R c).n ∨ 32 ≤ (r.n : Int))) : refE r c s = if anyR r c s r.n = true then 8 else 0 := by
  rw [relPR] at h
  obtain ⟨h1, h2, h3, h4⟩ := h.2 c hc
  unfold refE
  rw [if_neg (by omega)]
theorem rel_step {r : RT} {R : Nat → RT} (h : relPR r R) {c : Nat} (hc : c < 16) {s : Int} {i : Nat} (hf : ¬(4 ≤ (R c).n ∨ 32 ≤ (r.n : Int))) (hp : placeR (R c) s i false) (h0 : 0 ≤ s) (h1 : s < 2147483648) (k e : Int) (n b : ByteArray) :
    relPR (r.push c s k e n b) (updR R c ((R c).ins i c s k e n b)) := by
  have hi := hp.1
  rw [relPR] at h ⊢
  refine ⟨by simp only [RT.push]; omega, fun d hd => ?_⟩
  obtain ⟨g1, g2, g3, g4⟩ := h.2 d hd
  have hcd : (r.push c s k e n b).c r.n = (c : Int) := upF_at _ _ _
  have hsd : (r.push c s k e n b).s r.n = s := upF_at _ _ _
  have hown : ownN (r.push c s k e n b) d (r.n + 1) = if (c : Int) = d then ownN r d r.n + 1 else ownN r d r.n := by
    rw [ownN_succ, hcd, own_push _ _ _ _ _ _ _ _ _ (Nat.le_refl _)]
  have hany : ∀ t, anyR (r.push c s k e n b) d t (r.n + 1) = (anyR r d t r.n || ((c : Int) == d && s == t)) := fun t => by
    rw [anyR_succ, hcd, hsd, any_push _ _ _ _ _ _ _ _ _ _ (Nat.le_refl _)]
  show risR _ ∧ _ = ownN _ _ (r.n + 1) ∧ _ ∧ ∀ t, anyR _ _ t (r.n + 1) = true ↔ _
  rw [hown]
  by_cases e' : d = c
  · subst e'
    rw [updR_eq, if_pos rfl]
    refine ⟨ris_ins g1 hp h0 h1 _ _ _ _ _, by show (((R d).n + 1 : Nat) : Int) = _; omega, by show (R d).n + 1 ≤ 4; omega, fun t => ?_⟩
    rw [hany t, ins_has _ _ hi]
    simp only [Bool.or_eq_true, Bool.and_eq_true, beq_iff_eq, true_and]
    rw [g4 t]
    constructor
    · rintro (h | h)
      · exact .inr h
      · exact .inl h.symm
    · rintro (h | h)
      · exact .inr h.symm
      · exact .inl h
  · rw [updR_ne _ _ e', if_neg (by omega)]
    refine ⟨g1, g2, g3, fun t => ?_⟩
    rw [hany t, ← g4 t]
    have : ((c : Int) == (d : Int)) = false := by simp; omega
    rw [this]; simp
theorem rel_0 : relPR r0 R0 := by
  rw [relPR]
  refine ⟨by show 0 ≤ 32; omega, fun c hc => ⟨⟨fun i hi => absurd hi (Nat.not_lt_zero i), fun i j _ hj => absurd hj (Nat.not_lt_zero j)⟩, by show ((0 : Nat) : Int) = ownN r0 c 0; rw [ownN_zero]; rfl, by show 0 ≤ 4; omega, fun s => ?_⟩⟩
  show anyR r0 c s 0 = true ↔ _
  rw [anyR_zero]
  exact ⟨fun h => Bool.noConfusion h, fun ⟨i, hi, _⟩ => absurd hi (Nat.not_lt_zero i)⟩

end Go.Proofs.YtpdkchpjekglaaaGreat.Sx
/- TopLinks: pool.Put over memory told in other words; numbers at its places. No condition. -/
namespace Go.Proofs.YtpdkchpjekglaaaGreat.Sx
open Go Go.Proofs
set_option maxRecDepth 100000
set_option linter.unusedSimpArgs false
set_option linter.unusedVariables false

theorem FnOK.pre {P : Program} {f : FuncId} {args : List SV} {tbl tbl' : List Blk} {K : SV → List Blk → List Nat → Prop} (hle : tblLe tbl tbl') (hlt : (tblLt tbl'.length tbl' && Nat.beq tbl.length tbl'.length) = true) (h : FnOK P f args tbl' K) : FnOK P f args tbl K := by
  intro B ρ σ us w hr hT
  rw [Bool.and_eq_true] at hlt
  have hl := Nat.eq_of_beq_eq_true hlt.2
  have hT' := hT.le hle hlt.1
  have hr' : RelL tbl'.length ρ (fun i => if i < tbl.length then σ i else (0, 0)) args us.toList := RelL.mono (by omega) args _ (fun i hi _ => ⟨rfl, by simp [hi]⟩) hr
  refine (h B ρ _ us w hr' hT').mono ?_
  rintro e w' ⟨s, v, t, m, ρ', σ', h1, h2, h3, h4, h5, h6⟩
  refine ⟨s, v, t, m, ρ', σ', h1, h2, by omega, fun i hi hm => ?_, h5, h6⟩
  obtain ⟨e1, e2⟩ := h4 i (by omega) hm
  exact ⟨e1, by rw [e2]; simp [hi]⟩
def pMv : List Nat := [3, 4, 5, 6, 7, 8, 9, 10, 11, 12, 13, 14, 15, 16, 17, 18]
def inPool (blks : List Blk) (R : Nat → RT) (N : Int) : Prop := tblLe blks (poolT R N) ∧ Nat.beq blks.length 19 = true
def poolPutL : Spec := .m fun args blks K => match args with
  | [.ptr 0 0, .agg [.v (.int .i64 c), .v (.int .i64 s), .v (.int .i64 k), .v (.int .i64 e), .v (.string n), .v (.string b)]] => ∃ (r : RT) (R : Nat → RT), inPool blks R (r.n : Int) ∧ relPR r R ∧ ob (reqOK c s k e n b)
      ((refE r c s ≠ 0 → K (.v (.int .i64 (refE r c s))) (poolT R (r.n : Int)) pMv) ∧
       (refE r c s = 0 → ∀ R', relPR (r.push c s k e n b) R' → K (.v (.int .i64 0)) (poolT R' ((r.push c s k e n b).n : Int)) pMv))
  | _ => False
theorem poolT_lt (R : Nat → RT) (N : Int) : tblLt (poolT R N).length (poolT R N) = true := by kernel_rfl
theorem rel_pool {r : RT} {R : Nat → RT} (h : relPR r R) : poolOK R (r.n : Int) := by
  rw [relPR] at h
  exact ⟨fun q hq => (h.2 q hq).1, by omega, by omega⟩
theorem poolPutL_ok : SpecOK Tryz.prog 17 poolPutL := by
  refine ⟨poolPutS_ok.1, fun args blks K h => ?_⟩
  dsimp only at h
  split at h
  case h_2 => exact h.elim
  rename_i c s k e n b
  obtain ⟨r, R, hin, hrel, h⟩ := h
  rw [inPool] at hin
  obtain ⟨hle, hlen⟩ := hin
  rw [ob_iff] at h
  obtain ⟨hok, hK1, hK2⟩ := h
  have hlen := Nat.eq_of_beq_eq_true hlen
  have hok' := hok
  rw [reqOK_def] at hok'
  simp only [Bool.and_eq_true, decide_eq_true_eq] at hok'
  obtain ⟨⟨hc0, hc1⟩, ⟨hs0, hs1⟩, _⟩ := hok'
  obtain ⟨d, rfl⟩ : ∃ d : Nat, c = (d : Int) := ⟨c.toNat, by omega⟩
  have hd : d < 16 := by omega
  refine FnOK.pre hle (by rw [Bool.and_eq_true]; exact ⟨poolT_lt R _, by rw [hlen]; rfl⟩) (FnOK.mvs ?_)
  refine poolPutS_ok.2 _ _ _ ⟨R, r.n, rfl, rel_pool hrel, ob_mk hok ?_⟩
  rw [show ((d : Int)).toNat = d from by omega]
  have hmv : ∀ {d : Nat}, d < 16 → subB [3 + d] pMv = true := fun {d} hd => by
    match d, hd with
    | 0, _ | 1, _ | 2, _ | 3, _ | 4, _ | 5, _ | 6, _ | 7, _ | 8, _ | 9, _ | 10, _ | 11, _ | 12, _ | 13, _ | 14, _ | 15, _ => rfl
    | n + 16, h => exact absurd h (by omega)
  refine ⟨fun hf => ⟨pMv, rfl, ?_⟩, fun hf i hp => ⟨pMv, rfl, ?_⟩, fun hf i hp => ⟨pMv, hmv hd, ?_⟩⟩
  · have := ref_seven hrel hd s hf
    rw [this] at hK1
    exact hK1 (by decide)
  · have h1 := ref_else hrel hd s hf
    have h2 := place_any hrel hd hp
    rw [h1, if_pos h2.symm] at hK1
    exact hK1 (by decide)
  · have h1 := ref_else hrel hd s hf
    have h2 := place_any hrel hd hp
    rw [if_neg (by rw [← h2]; decide)] at h1
    have h3 := rel_step hrel hd hf hp hs0 hs1 k e n b
    have h4 := hK2 h1 _ h3
    have : (((r.push (d : Int) s k e n b).n : Nat) : Int) = (r.n : Int) + 1 := by simp [RT.push]
    rw [this] at h4
    exact h4
theorem plen_vf (x y : SV) (N : Int) (rest : List Blk) (K : SV → Prop) : vf Tryz.prog [] noI Tryz.f18 [.ptr 0 0] (.cells false [x, y, .v (.int .i64 N)] :: rest) (fun s _ _ => K s) = K (.v (.int .i64 N)) := by kernel_rfl
def inLen (blks : List Blk) (N : Int) : Prop := (tblLt blks.length blks && allRo blks) = true ∧ ∃ (x y : SV) (rest : List Blk), blks = .cells false [x, y, .v (.int .i64 N)] :: rest
def plenS : Spec := .q fun args blks K => match args with
  | [.ptr 0 0] => ∃ N : Int, inLen blks N ∧ K (.v (.int .i64 N))
  | _ => False
theorem plenS_ok : SpecOK Tryz.prog 18 plenS := by
  refine q_ro mixed .nil Tryz.func18 rfl rfl fun args blks K h => ?_
  split at h
  case h_2 => exact h.elim
  obtain ⟨N, hin, hK⟩ := h
  rw [inLen] at hin
  obtain ⟨h1, x, y, rest, rfl⟩ := hin
  exact ⟨_, rfl, hK, h1, noI, (plen_vf x y N rest fun s => s = .v (.int .i64 N)).mpr rfl⟩

end Go.Proofs.YtpdkchpjekglaaaGreat.Sx
