/- TopLinks: the law gives true. No condition. -/
import Derived.Test.YtpdkchpjekglaaaGreatAl1
import Derived.Test.YtpdkchpjekglaaaGreatSx13
import Derived.Test.YtpdkchpjekglaaaGreatProg
import Derived.Test.YtpdkchpjekglaaaGreatMH
/- TopLinks: the law's own function gives true. No condition. -/
namespace Go.Proofs.YtpdkchpjekglaaaGreat.Sx
open Go Go.Proofs
set_option maxRecDepth 100000
set_option linter.unusedSimpArgs false
set_option linter.unusedVariables false

theorem tlS_ok : SpecsOK Tryz.prog tlS := .cons alone_ok (.cons newPipeS_ok (.cons encodeS_ok (.cons firstS_ok (.cons sendL_ok (.cons pollL_ok (.cons takeL_ok (.cons toldS_ok (.cons textsEqS_ok (.cons newPoolS_ok (.cons new42S_ok (.cons decodeS_ok (.cons put42S_ok (.cons poolPutL_ok (.cons plenS_ok .nil))))))))))))))
theorem Tr.out {P : Program} {c : Code} {st : St} {N X X' : St → Prop} {id : Nat} (h : Tr P c st (pq N X id)) (hX : ∀ st, X st → X' st) : Tr P c st (pq N X' id) :=
  h.mono fun e st hq => by
    cases e with
    | norm => exact hq
    | exit i => exact ⟨hq.1, hX _ hq.2⟩
    | ret => exact hq
theorem Tr.any {P : Program} {c : Code} {st : St} {N X : St → Prop} {i id : Nat} (h : Tr P c st (pq N nope i)) : Tr P c st (pq N X id) :=
  h.mono fun e st hq => by
    cases e with
    | norm => exact hq
    | exit i => exact hq.2.elim
    | ret => exact hq
def okT (y : ByteArray) : Prop := ∃ (c s k e : Int) (n b : ByteArray), encE 0 c s k e firstB n b = 0 ∧ y = blkB 0 c s k e firstB n b
theorem enc_ok {c s k e : Int} {n b : ByteArray} (h : encE 0 c s k e firstB n b = 0) : reqOK c s k e n b = true ∧ encB 0 c s k e firstB n b = blkB 0 c s k e firstB n b := by
  refine ⟨?_, by rw [encB_def, if_pos h]⟩
  rw [encE_def] at h
  cases hr : reqOK c s k e n b with
  | true => rfl
  | false => rw [hr] at h; simp at h
theorem enc_size {c s k e : Int} {n b : ByteArray} (h : encE 0 c s k e firstB n b = 0) (hn : n.size ≤ 100) (hb : b.size ≤ 3000) : (encB 0 c s k e firstB n b).size ≤ 4000 := by
  rw [(enc_ok h).2, blkB_def, textsB_size]
  have hc : (cmdB k e n b).size ≤ 3200 := by
    rw [cmdB_def]
    split
    · rw [textsB_size]; simp only [lenT, byteB_size]; omega
    · rw [bstr_size]; simp
  have hf : firstB.size = 32 := by rw [firstB, bstr_size]; rfl
  simp only [lenT, byteB_size, fourB_size, hf]
  omega
theorem wrap_up (k : Nat) (hk : k ≤ 1000) : IntKind.i64.wrap ((k : Int) + 1) = ((k + 1 : Nat) : Int) := by rw [wrap_i64 _ (by omega) (by omega)]; omega
theorem nil_le (i s : Nat) (K : Prop) : SV.leK (.v (.slice none 0 0)) (.slc i 0 0 0 s) K = K := by kernel_rfl
theorem none_le (c : List Col) (K : Prop) (h : K) : tblLeK [] [.tab true 0 c] K := ⟨ob_mk rfl trivial, h⟩
theorem A5_le (r : RT) (m cr cl : Nat) (lf : Nat → Int) (h0 : r.n ≤ cr) (h1 : m ≤ cl) : stL ⟨(8, .v (.int .i64 0)) :: (tlA4 r m cr cl lf).env, 212, (tlA4 r m cr cl lf).tbl, tlMv, 2⟩ (tlH r m cr cl lf 0 x00) := by
  refine stL_of (by kernel_rfl) (fun K hK => ?_) ?_
  · refine leK_self (.v (.int .i64 0)) _ trivial ?_
    refine (nil_le 18 1 _).mpr ?_
    exact leK_self (.ptr 10 0) _ trivial (leK_self (.ptr 2 0) _ trivial (leK_self (.slc 1 0 m cl 1) _ h1 (leK_self (.slc 0 0 r.n cr 6) _ h0 hK)))
  · refine tblLeK_app [.tab false r.n r.cols, .tab false m [.i .i64 lf]] _ _ _ ⟨trivial, trivial, trivial⟩ (tblLeK_app (p0.at 2) _ _ _ (at_ok _ _) ?_)
    have := tblLeK_app (p0.at 10) [] [.tab true 0 [.s fun _ => bstr []]] True (at_ok _ _) (none_le _ _ trivial)
    rw [List.append_nil] at this
    exact this
theorem s33_le (mm : Nat) (f : Nat → ByteArray) : stL ⟨[(19, .ptr 39 0), (18, .ptr 20 0), (17, .slc 19 0 mm mm 1)], 212, dead18 ++ (.dead :: .tab true mm [.s f] :: (poolB (fun v => SV.ren (back [] 20) (gPool R0 v)) R0 0 ++ [.cells true (.v (.slice none 0 0) :: lastM)])), tlMv, 2⟩ (tl33 ⟨mm, f, r0, R0⟩) := by
  refine stL_of (by kernel_rfl) (fun K hK => ?_) ?_
  · exact leK_self (.ptr 39 0) _ trivial (leK_self (.ptr 20 0) _ trivial (leK_self (.slc 19 0 mm mm 1) _ (Nat.le_refl _) hK))
  · refine tblLeK_app dead18 _ _ _ (dead_ok (w := []) trivial) (tblLeK_app [.dead, .tab true mm [.s f]] _ _ _ ⟨trivial, trivial, trivial⟩ ?_)
    refine poolB_le _ R0 0 _ _ _ (back_le R0 [] 20 (.inr rfl)) ?_
    refine (nil_le 40 6 _).mpr ?_
    refine preLeK_self lastM _ last_ok ?_
    exact none_le _ _ trivial
theorem s8_le (j : Int) (m : Nat) (f : Nat → ByteArray) (r : RT) (R : Nat → RT) : stL (tlN (fun v => SV.ren (back L19 44) (gPool R v)) j m f r R (r.n : Int)) (tl8 j ⟨m, f, r, R⟩) := by
  refine stL_of (by kernel_rfl) (fun K hK => ?_) ?_
  · exact leK_self (.v (.int .i64 j)) _ trivial (leK_self (.ptr 39 0) _ trivial (leK_self (.ptr 20 0) _ trivial (leK_self (.slc 19 0 m m 1) _ (Nat.le_refl _) hK)))
  · refine tblLeK_app dead18 _ _ _ (dead_ok (w := []) trivial) (tblLeK_app [.dead, .tab true m [.s f]] _ _ _ ⟨trivial, trivial, trivial⟩ ?_)
    refine poolB_le _ R _ _ _ _ (back_le R L19 44 (.inl rfl)) ?_
    exact tblLeK_self _ _ ⟨⟨Nat.le_refl _, last_ok⟩, trivial, trivial⟩ trivial
theorem pool_in (h : Value → SV) (R : Nat → RT) (N : Int) (hh : ∀ y ∈ c16L, SV.le (h (.int .i64 y)) (gPool R (.int .i64 y))) : inPool (poolC true h R N) R N := by
  rw [inPool]
  exact ⟨pool_le R N _ h [] ⟨rfl, rfl, fun _ _ => rfl⟩ hh, rfl⟩
theorem pos_le (R : Nat → RT) : ∀ y ∈ c16L, SV.le (SV.ren (pos L19) (gPoolA R (.int .i64 y))) (gPool R (.int .i64 y)) :=
  cl16 ⟨slc_le _ _, slc_le _ _, slc_le _ _, slc_le _ _, slc_le _ _, slc_le _ _, slc_le _ _, slc_le _ _, slc_le _ _, slc_le _ _, slc_le _ _, slc_le _ _, slc_le _ _, slc_le _ _, slc_le _ _, slc_le _ _⟩
theorem purge_le (R : Nat → RT) : ∀ y ∈ c16L, SV.le (SV.ren (pos L19) (SV.purge [40] (gPoolA R (.int .i64 y)))) (gPool R (.int .i64 y)) :=
  cl16 ⟨slc_le _ _, slc_le _ _, slc_le _ _, slc_le _ _, slc_le _ _, slc_le _ _, slc_le _ _, slc_le _ _, slc_le _ _, slc_le _ _, slc_le _ _, slc_le _ _, slc_le _ _, slc_le _ _, slc_le _ _, slc_le _ _⟩
theorem len_in (R : Nat → RT) (N : Int) : inLen (poolC false (fun v => SV.ren (pos L19) (gPoolA R v)) R N) N := by
  rw [inLen]
  exact ⟨by kernel_rfl, _, _, _, rfl⟩

end Go.Proofs.YtpdkchpjekglaaaGreat.Sx
/- TopLinks: the law's own function gives true, put together. No condition. -/
namespace Go.Proofs.YtpdkchpjekglaaaGreat.Sx
open Go Go.Proofs
set_option maxRecDepth 100000
set_option linter.unusedSimpArgs false
set_option linter.unusedVariables false

/-- What holds at the head of a round. -/
def q0 (k : Nat) (x : LX) : Prop := (x.q ≤ k ∧ k ≤ 20) ∧ invA x.q x.st x.a ∧ invB x.q x.st (45 * k) x.b ∧ ∀ j, j < x.q → okT (x.st j)
/-- .. inside of round k: one more may be sent, the second end has taken so many more. -/
def q1 (k c : Nat) (x : LX) : Prop := (x.q ≤ k + 1 ∧ k ≤ 19) ∧ invA x.q x.st x.a ∧ invB x.q x.st (45 * k + c) x.b ∧ ∀ j, j < x.q → okT (x.st j)
section
variable {r : RT} {m cr cl : Nat} {lf : Nat → Int}
theorem p8 (h0 : r.n ≤ cr) (h1 : m ≤ cl) (hsz : ∀ i, i < r.n → (r.nm i).size ≤ reachBytes ∧ (r.b i).size ≤ reachBytes) {k : Nat} (hk : k < r.n) (x : LX) :
    Tr Tryz.prog (sL (b1 (bodyOf Tryz.f3))) (tlH r m cr cl lf (k : Int) x) (pq (fun st' => stL st' (tl9 r m cr cl lf (k : Int) x (encB 0 (r.c (0 + (k : Int).toNat)) (r.s (0 + (k : Int).toNat)) (r.k (0 + (k : Int).toNat)) (r.e (0 + (k : Int).toNat)) firstB (r.nm (0 + (k : Int).toNat)) (r.b (0 + (k : Int).toNat))) (encE 0 (r.c (0 + (k : Int).toNat)) (r.s (0 + (k : Int).toNat)) (r.k (0 + (k : Int).toNat)) (r.e (0 + (k : Int).toNat)) firstB (r.nm (0 + (k : Int).toNat)) (r.b (0 + (k : Int).toNat))))) nope 0) := by
  refine Tr.leaf mixed tlS_ok (v8 r m cr cl lf (k : Int) x) ?_
  have e1 : 0 + (k : Int).toNat = k := by omega
  have hs := hsz k hk
  have hr : reachBytes = 140737488351232 := rfl
  have hf : firstB.size = 32 := by rw [firstB, bstr_size]; rfl
  rw [e1]
  refine ob_mk (by simp; omega) (ob_mk rfl (ob_mk (decide_eq_true hk) (ob_mk ?_ (s9_self h0 h1 _ _ _ _))))
  rw [hf, decide_eq_true (show (r.nm k).size + (r.b k).size ≤ 9223372036854775807 by omega)]
  decide
theorem p11 (h0 : r.n ≤ cr) (h1 : m ≤ cl) {k : Nat} (hk : k < r.n) (hn : r.n ≤ 20) {x : LX} (hq : q0 k x) {c s k' e : Int} {nm b : ByteArray} (hnm : nm.size ≤ 100) (hb : b.size ≤ 3000) :
    Tr Tryz.prog (sL (sR (sR (b1 (bodyOf Tryz.f3))))) (tl9 r m cr cl lf (k : Int) x (encB 0 c s k' e firstB nm b) (encE 0 c s k' e firstB nm b)) (pq (fun st' => ∃ x' : LX, q1 k 0 x' ∧ stL st' (tlH r m cr cl lf (k : Int) x')) nope 0) := by
  refine Tr.leaf mixed tlS_ok (v11 r m cr cl lf (k : Int) x _ _ (q1 k 0)) ?_
  obtain ⟨⟨hq0, hq1⟩, hA, hB, hT⟩ := hq
  refine bc_mk (fun he => ?_) fun _ => ⟨x, ⟨⟨by omega, by omega⟩, hA, hB, hT⟩, H_self h0 h1 _ _⟩
  have he := eq_of_beq he
  have hs := enc_size he hnm hb
  have hst : okT (encB 0 c s k' e firstB nm b) := by rw [okT]; exact ⟨c, s, k', e, nm, b, he, (enc_ok he).2⟩
  refine ⟨x.q, x.st, x.a, rfl, hA, by omega, fun e he => bc_mk (fun h => ?_) fun _ => ⟨x, ⟨⟨by omega, by omega⟩, hA, hB, hT⟩, H_self h0 h1 _ _⟩, fun _ p' hA' => ?_⟩
  · exact absurd (eq_of_beq h) he
  · refine ob_mk rfl (ob_mk (nbeq _) (ob_mk (decide_eq_true (by omega)) ⟨⟨x.q + 1, upF x.st x.q _, p', x.b⟩, ⟨⟨by show x.q + 1 ≤ k + 1; omega, by omega⟩, hA', invB_send hB (by omega) hs, fun j hj => ?_⟩, H_self h0 h1 _ _⟩))
    show okT (upF x.st x.q _ j)
    have hj : j < x.q + 1 := hj
    by_cases e : j = x.q
    · subst e; rw [upF_at]; exact hst
    · rw [upF_ne _ _ e]; exact hT j (by omega)
theorem p13 (h0 : r.n ≤ cr) (h1 : m ≤ cl) {k : Nat} {x : LX} (hq : q1 k 0 x) :
    Tr Tryz.prog (sL (sR (sR (sR (b1 (bodyOf Tryz.f3)))))) (tlH r m cr cl lf (k : Int) x) (pq (fun st' => ∃ y : LY, (y.i = k ∧ y.m ≤ 21 ∧ q1 k 0 y.x ∧ ∀ j, j < y.m → frOK y.x.q y.x.st (y.f j)) ∧ stL st' (tl11 r m cr cl lf y)) nope 0) := by
  refine Tr.leaf mixed tlS_ok (v13 r m cr cl lf k x (fun y => y.i = k ∧ y.m ≤ 21 ∧ q1 k 0 y.x ∧ ∀ j, j < y.m → frOK y.x.q y.x.st (y.f j))) ?_
  obtain ⟨⟨hq0, hq1⟩, hA, hB, hT⟩ := hq
  refine .inl ⟨x.q, x.st, x.a, rfl, hA, ob_mk (by simp; omega) fun p' m' f hA' hm => ⟨⟨k, m', f, x.sa p'⟩, ⟨rfl, by show m' ≤ 21; omega, ⟨⟨hq0, hq1⟩, hA', hB, hT⟩, hm.2⟩, s11_self h0 h1 _⟩⟩
theorem p25 (h0 : r.n ≤ cr) (h1 : m ≤ cl) {k : Nat} {x : LX} (hq : q1 k 42 x) :
    Tr Tryz.prog (sL (sR (sR (sR (sR (sR (b1 (bodyOf Tryz.f3)))))))) (tlH r m cr cl lf (k : Int) x) (pq (fun st' => ∃ y : LY, (y.i = k ∧ y.m ≤ 1 ∧ q1 k 42 y.x ∧ ∀ j, j < y.m → ackOK (y.f j)) ∧ stL st' (tl15 r m cr cl lf y)) nope 0) := by
  refine Tr.leaf mixed tlS_ok (v25 r m cr cl lf k x (fun y => y.i = k ∧ y.m ≤ 1 ∧ q1 k 42 y.x ∧ ∀ j, j < y.m → ackOK (y.f j))) ?_
  obtain ⟨⟨hq0, hq1⟩, hA, hB, hT⟩ := hq
  refine .inr ⟨x.q, x.st, 45 * k + 42, x.b, rfl, hB, ob_mk (by simp; omega) fun p' m' f hB' hm => ⟨⟨k, m', f, x.sb p'⟩, ⟨rfl, hm.1, ⟨⟨hq0, hq1⟩, hA, hB', hT⟩, hm.2⟩, s15_self h0 h1 _⟩⟩
theorem pFor4 (h0 : r.n ≤ cr) (h1 : m ≤ cl) (hm : m ≤ 60) (j : Int) (y : LY) :
    Tr Tryz.prog (for4 (bodyOf Tryz.f3)) (tl3 r m cr cl lf j false y) (pq (fun st' => ∃ g : Bool, stL st' (tl3 r m cr cl lf j g y)) nope 0) := by
  refine Tr.nx (by kernel_rfl) (Tr.leaf mixed tlS_ok (v18 r m cr cl lf j false y) (s4_self h0 h1 _ _ _ _)) fun st' hs => Tr.le hs ?_
  refine Tr.loop (i := 4) (Z := fun st' => ∃ g : Bool, stL st' (tl3 r m cr cl lf j g y)) 1000 (fun _ _ => True) (fun k g => tl4 r m cr cl lf j y (k : Int) g) false (by kernel_rfl) trivial (s4_self h0 h1 _ _ _ _) (fun k hk g _ => ?_) (fun st h => h)
  refine Tr.leaf mixed tlS_ok (v4 r m cr cl lf j y (k : Int) g (k < 1000) ((k + 1 : Nat) : Int)) ?_
  have e1 : 0 + (k : Int).toNat = k := by omega
  rw [e1, wrap_up k hk]
  refine bc_mk (fun hlt => ?_) fun _ => ⟨rfl, g, s3_self h0 h1 _ _ _⟩
  have hlt := of_decide_eq_true hlt
  refine bc_mk (fun _ => ⟨by omega, true, trivial, s4_self h0 h1 _ _ _ _⟩) fun _ => ?_
  exact ob_mk (by simp; omega) (ob_mk rfl (ob_mk (decide_eq_true (by omega)) ⟨by omega, _, trivial, s4_self h0 h1 _ _ _ _⟩))
theorem p22 (h0 : r.n ≤ cr) (h1 : m ≤ cl) {k j : Nat} (hk : k ≤ 19) (g : Bool) {y : LY} (hj : j < y.m) (hm : y.m ≤ 21) (hf : frOK y.x.q y.x.st (y.f j)) (hB : invB y.x.q y.x.st (45 * k + 2 * j) y.x.b) :
    Tr Tryz.prog (sR (sR (b3 (bodyOf Tryz.f3)))) (tl3 r m cr cl lf (j : Int) g y) (pq (fun st' => ∃ p : PS, invB y.x.q y.x.st (45 * k + 2 * (j + 1)) p ∧ stL st' (tl2 r m cr cl lf (j : Int) (y.sb p))) nope 0) := by
  refine Tr.leaf mixed tlS_ok (v22 r m cr cl lf (j : Int) g y (invB y.x.q y.x.st (45 * k + 2 * (j + 1)))) ?_
  have e1 : 0 + (j : Int).toNat = j := by omega
  rw [e1]
  have hd : (decide ((0 : Int) ≤ (j : Int)) && decide ((j : Int) < (y.m : Int))) = true := by simp; omega
  refine bc_mk (fun _ => ?_) fun _ => ⟨y.x.b, invB_more hB (by omega), s2_self h0 h1 _ _⟩
  refine ob_mk hd (ob_mk rfl (ob_mk (decide_eq_true hj) (.inr ⟨_, _, _, _, rfl, hB, hf, by omega, fun p1 hB1 => ?_⟩)))
  refine ob_mk hd (ob_mk rfl (ob_mk (decide_eq_true hj) (.inr ⟨_, _, _, _, rfl, hB1, hf, by omega, fun p2 hB2 => ⟨p2, invB_more hB2 (by omega), s2_self h0 h1 _ _⟩⟩)))
theorem pFor2 (h0 : r.n ≤ cr) (h1 : m ≤ cl) (hm : m ≤ 60) {k : Nat} {y : LY} (hy : y.i = k ∧ y.m ≤ 21 ∧ q1 k 0 y.x ∧ ∀ j, j < y.m → frOK y.x.q y.x.st (y.f j)) :
    Tr Tryz.prog (for2 (bodyOf Tryz.f3)) (tl11 r m cr cl lf y) (pq (fun st' => ∃ x' : LX, q1 k 42 x' ∧ stL st' (tlH r m cr cl lf (k : Int) x')) nope 0) := by
  obtain ⟨hi, hm21, ⟨⟨hq0, hq1⟩, hA, hB, hT⟩, hf⟩ := hy
  subst hi
  refine Tr.nx (by kernel_rfl) (Tr.leaf mixed tlS_ok (v14 r m cr cl lf y) (s2_self h0 h1 _ _)) fun st' hs => Tr.le hs ?_
  refine Tr.loop (i := 2) (Z := fun st' => ∃ x' : LX, q1 y.i 42 x' ∧ stL st' (tlH r m cr cl lf (y.i : Int) x')) 1000 (fun j p => j ≤ y.m ∧ invB y.x.q y.x.st (45 * y.i + 2 * j) p) (fun j p => tl2 r m cr cl lf (j : Int) (y.sb p)) y.x.b (by kernel_rfl) ⟨Nat.zero_le _, hB⟩ (s2_self h0 h1 _ _) (fun j hj p hp => ?_) (fun st h => h)
  obtain ⟨hjm, hBp⟩ := hp
  refine Tr.nx (by kernel_rfl) ((Tr.leaf mixed tlS_ok (v15 r m cr cl lf (j : Int) (y.sb p)) (bc_mk (fun h => ⟨of_decide_eq_true h, s2_self h0 h1 _ _⟩) fun _ => ⟨rfl, H_self h0 h1 _ _⟩)).out fun st' hs => ⟨(y.sb p).x, ⟨⟨hq0, hq1⟩, hA, invB_more hBp (by omega), hT⟩, hs⟩) fun st' hs => ?_
  obtain ⟨hlt, hs⟩ := hs
  have hlt : (j : Int) < (y.m : Int) := hlt
  refine Tr.le hs (Tr.nx (by kernel_rfl) (N1 := fun st' => ∃ p' : PS, invB y.x.q y.x.st (45 * y.i + 2 * (j + 1)) p' ∧ stL st' (tl2 r m cr cl lf (j : Int) (y.sb p'))) (Tr.blk (i := 3) (by kernel_rfl) ?_) fun st' hs => ?_)
  · refine Tr.nx (by kernel_rfl) (Tr.leaf mixed tlS_ok (v17 r m cr cl lf (j : Int) (y.sb p)) (s3_self h0 h1 _ _ _)) fun st' hs => Tr.le hs ?_
    refine Tr.nx (by kernel_rfl) (pFor4 h0 h1 hm (j : Int) (y.sb p)) fun st' hs => ?_
    obtain ⟨g, hs⟩ := hs
    exact Tr.le hs (p22 (y := y.sb p) h0 h1 hq1 g (by show j < y.m; omega) hm21 (hf j (by omega)) hBp)
  · obtain ⟨p', hB', hs⟩ := hs
    refine Tr.le hs (Tr.any ((Tr.leaf mixed tlS_ok (v16 r m cr cl lf (j : Int) ((j + 1 : Nat) : Int) (y.sb p') (y.sb p')) ?_).norm fun st' hs => ⟨by omega, p', ⟨by omega, hB'⟩, hs⟩))
    rw [wrap_up j hj]
    exact s2_self h0 h1 _ _
theorem pFor6 (h0 : r.n ≤ cr) (h1 : m ≤ cl) {k : Nat} {y : LY} (hy : y.i = k ∧ y.m ≤ 1 ∧ q1 k 42 y.x ∧ ∀ j, j < y.m → ackOK (y.f j)) :
    Tr Tryz.prog (for6 (bodyOf Tryz.f3)) (tl15 r m cr cl lf y) (pq (fun st' => ∃ x' : LX, q1 k 42 x' ∧ stL st' (tlH r m cr cl lf (k : Int) x')) nope 0) := by
  obtain ⟨hi, hm1, ⟨⟨hq0, hq1⟩, hA, hB, hT⟩, hf⟩ := hy
  subst hi
  refine Tr.nx (by kernel_rfl) (Tr.leaf mixed tlS_ok (v26 r m cr cl lf y) (s6_self h0 h1 _ _)) fun st' hs => Tr.le hs ?_
  refine Tr.loop (i := 6) (Z := fun st' => ∃ x' : LX, q1 y.i 42 x' ∧ stL st' (tlH r m cr cl lf (y.i : Int) x')) 1000 (fun _ y' => ∃ p, y' = y.sa p ∧ invA y.x.q y.x.st p) (fun j y' => tl6 r m cr cl lf (j : Int) y') y (by kernel_rfl) ⟨y.x.a, rfl, hA⟩ (s6_self h0 h1 _ _) (fun j hj y' hp => ?_) (fun st h => h)
  obtain ⟨p, rfl, hAp⟩ := hp
  refine (Tr.leaf mixed tlS_ok (v6 r m cr cl lf (j : Int) (y.sa p) (j < 1000) ((j + 1 : Nat) : Int) (fun y' => ∃ p, y' = y.sa p ∧ invA y.x.q y.x.st p)) ?_).out fun st' hs => ⟨(y.sa p).x, ⟨⟨hq0, hq1⟩, hAp, hB, hT⟩, hs⟩
  have e1 : 0 + (j : Int).toNat = j := by omega
  rw [e1, wrap_up j hj]
  refine bc_mk (fun hlt => bc_mk (fun _ => ?_) fun _ => ⟨rfl, H_self h0 h1 _ _⟩) fun _ => ⟨rfl, H_self h0 h1 _ _⟩
  have hlt : (j : Int) < (y.m : Int) := of_decide_eq_true hlt
  have hlt' : j < (y.sa p).m := by show j < y.m; omega
  refine ob_mk (by simp; show j < y.m; omega) (ob_mk rfl (ob_mk (decide_eq_true hlt') (.inl ⟨_, _, _, rfl, hAp, hf j (by omega), fun p' hA' => ⟨by omega, y.sa p', ⟨p', rfl, hA'⟩, s6_self h0 h1 _ _⟩⟩)))
theorem pB1 (h0 : r.n ≤ cr) (h1 : m ≤ cl) (hsz : ∀ i, i < r.n → (r.nm i).size ≤ reachBytes ∧ (r.b i).size ≤ reachBytes) (hn : r.n ≤ 20) (hm : m ≤ 60) {k : Nat} (hk : k < r.n) {x : LX} (hq : q0 k x) :
    Tr Tryz.prog (b1 (bodyOf Tryz.f3)) (tlH r m cr cl lf (k : Int) x) (pq (fun st' => ∃ x' : LX, q1 k 42 x' ∧ stL st' (tlH r m cr cl lf (k : Int) x')) nope 0) := by
  refine Tr.nx (by kernel_rfl) (p8 h0 h1 hsz hk x) fun st' hs => Tr.le hs ?_
  have e1 : 0 + (k : Int).toNat = k := by omega
  have hd : (decide ((0 : Int) ≤ (k : Int)) && decide ((k : Int) < (r.n : Int))) = true := by simp; omega
  refine Tr.nx (by kernel_rfl) (Tr.leaf mixed tlS_ok (v9 r m cr cl lf (k : Int) x _ _) ?_) fun st' hs => ?_
  · rw [e1]
    refine ob_mk hd (ob_mk rfl (ob_mk (decide_eq_true hk) (bc_mk (fun _ => rfl) fun ha => ob_mk hd (ob_mk rfl (ob_mk (decide_eq_true hk) (bc_mk (fun _ => rfl) fun hb => ⟨⟨?_, ?_⟩, s9_self h0 h1 _ _ _ _⟩))))))
    · have := of_decide_eq_false ha; omega
    · have := of_decide_eq_false (show decide (((r.b k).size : Int) > 3000) = false from hb); omega
  obtain ⟨⟨ha, hb⟩, hs⟩ := hs
  refine Tr.le hs (Tr.nx (by kernel_rfl) (p11 h0 h1 hk hn hq ha hb) fun st' hs => ?_)
  obtain ⟨x1, hq1, hs⟩ := hs
  refine Tr.le hs (Tr.nx (by kernel_rfl) (p13 h0 h1 hq1) fun st' hs => ?_)
  obtain ⟨y, hy, hs⟩ := hs
  refine Tr.le hs (Tr.nx (by kernel_rfl) (pFor2 h0 h1 hm hy) fun st' hs => ?_)
  obtain ⟨x2, hq2, hs⟩ := hs
  refine Tr.le hs (Tr.nx (by kernel_rfl) (p25 h0 h1 hq2) fun st' hs => ?_)
  obtain ⟨y2, hy2, hs⟩ := hs
  exact Tr.le hs (pFor6 h0 h1 hy2)
theorem pFor0 (h0 : r.n ≤ cr) (h1 : m ≤ cl) (hsz : ∀ i, i < r.n → (r.nm i).size ≤ reachBytes ∧ (r.b i).size ≤ reachBytes) (hn : r.n ≤ 20) (hm : m ≤ 60) :
    Tr Tryz.prog (sL (sR (sR (sR (sR (bodyOf Tryz.f3)))))) (tlA4 r m cr cl lf) (pq (fun st' => ∃ (k : Nat) (x : LX), q0 k x ∧ stL st' (tlH r m cr cl lf (k : Int) x)) nope 0) := by
  refine Tr.nx (by kernel_rfl) (Tr.leaf mixed tlS_ok (vA5 r m cr cl lf) (A5_le r m cr cl lf h0 h1)) fun st' hs => Tr.le hs ?_
  refine Tr.loop (i := 0) (Z := fun st' => ∃ (k : Nat) (x : LX), q0 k x ∧ stL st' (tlH r m cr cl lf (k : Int) x)) 1000 q0 (fun k x => tlH r m cr cl lf (k : Int) x) x00 (by kernel_rfl) ⟨⟨Nat.le_refl _, by omega⟩, invA_0 _, invB_0 _, fun j hj => absurd hj (Nat.not_lt_zero j)⟩ (H_self h0 h1 _ _) (fun k hk x hq => ?_) (fun st h => h)
  refine Tr.nx (by kernel_rfl) ((Tr.leaf mixed tlS_ok (vH r m cr cl lf (k : Int) x) (bc_mk (fun h => ⟨of_decide_eq_true h, H_self h0 h1 _ _⟩) fun _ => ⟨rfl, H_self h0 h1 _ _⟩)).out fun st' hs => ⟨k, x, hq, hs⟩) fun st' hs => ?_
  obtain ⟨hlt, hs⟩ := hs
  refine Tr.le hs (Tr.nx (by kernel_rfl) (N1 := fun st' => ∃ x' : LX, q1 k 42 x' ∧ stL st' (tlH r m cr cl lf (k : Int) x')) (Tr.blk (i := 1) (by kernel_rfl) (pB1 h0 h1 hsz hn hm (by omega) hq)) fun st' hs => ?_)
  obtain ⟨x', ⟨⟨hq0, hq1⟩, hA, hB, hT⟩, hs⟩ := hs
  refine Tr.le hs (Tr.any ((Tr.leaf mixed tlS_ok (v7 r m cr cl lf (k : Int) ((k + 1 : Nat) : Int) x' x') ?_).norm fun st' hs => ⟨by omega, x', ⟨⟨hq0, by omega⟩, hA, invB_more hB (by omega), hT⟩, hs⟩))
  rw [wrap_up k hk]
  exact H_self h0 h1 _ _
end

end Go.Proofs.YtpdkchpjekglaaaGreat.Sx
/- TopLinks: what came goes to the pool and to its reference; the contract of the law. No condition. -/
namespace Go.Proofs.YtpdkchpjekglaaaGreat.Sx
open Go Go.Proofs
set_option maxRecDepth 100000
set_option linter.unusedSimpArgs false
set_option linter.unusedVariables false

theorem poolP_ok {w : LW} {c s k e : Int} {n b : ByteArray} (h : Value → SV) (hh : ∀ y ∈ c16L, SV.le (h (.int .i64 y)) (gPool w.R (.int .i64 y))) (hrel : relPR w.r w.R) (hok : reqOK c s k e n b = true) {q : Int} (hq : refE w.r c s = q) {K : (Nat → RT) → Int → Prop}
    (hK1 : q ≠ 0 → K w.R (w.r.n : Int)) (hK2 : q = 0 → ∀ R' : Nat → RT, relPR (w.r.push c s k e n b) R' → K R' ((w.r.push c s k e n b).n : Int)) : poolP h w c s k e n b q K := by
  refine ⟨w.r, w.R, pool_in h w.R _ hh, hrel, ob_mk hok ⟨fun h0 => ?_, fun h0 R' hR' => ?_⟩⟩
  · rw [hq] at h0 ⊢
    rw [show (q != q) = false from by simp]
    exact hK1 h0
  · have hq0 : q = 0 := by rw [← hq]; exact h0
    subst hq0
    exact hK2 rfl R' hR'
theorem refP_ok {w : LW} {c s k e : Int} {n b : ByteArray} (hrel : relPR w.r w.R) (hok : reqOK c s k e n b = true) {K : RT → (Nat → RT) → Int → Prop} (hK : ∀ (r : RT) (R : Nat → RT), relPR r R → K r R (r.n : Int)) : refP w c s k e n b K := by
  have hn : w.r.n ≤ 32 := by rw [relPR] at hrel; exact hrel.1
  refine ⟨w.r, rfl, rfl, ob_mk ?_ ⟨fun q hq h0 => ?_, fun h0 => ?_⟩⟩
  · rw [nbeq, hok, decide_eq_true (show w.r.n ≤ 1000000 by omega)]; rfl
  · exact poolP_ok _ (pos_le w.R) hrel hok hq (fun _ => hK _ _ hrel) fun hq0 => absurd hq0 h0
  · exact poolP_ok _ (purge_le w.R) hrel hok h0 (fun h => absurd rfl h) fun _ R' hR' => hK _ _ hR'
theorem pFor8 {mm : Nat} {f : Nat → ByteArray} (hmm : mm ≤ 1000) (hT : ∀ j, j < mm → okT (f j)) :
    Tr Tryz.prog (for8 (bodyOf Tryz.f3)) (tl33 ⟨mm, f, r0, R0⟩) (pq (fun st' => ∃ w : LW, relPR w.r w.R ∧ stL st' (tl33 w)) nope 0) := by
  refine Tr.nx (by kernel_rfl) (Tr.leaf mixed tlS_ok (v34 _) (s8_self _ _)) fun st' hs => Tr.le hs ?_
  refine Tr.loop (i := 8) (Z := fun st' => ∃ w : LW, relPR w.r w.R ∧ stL st' (tl33 w)) 1000 (fun _ w => w.m = mm ∧ w.f = f ∧ relPR w.r w.R) (fun j w => tl8 (j : Int) w) ⟨mm, f, r0, R0⟩ (by kernel_rfl) ⟨rfl, rfl, rel_0⟩ (s8_self _ _) (fun j hj w hw => ?_) (fun st h => h)
  obtain ⟨mw, fw, rw', Rw⟩ := w
  obtain ⟨h1, h2, hrel⟩ := hw
  simp only at h1 h2
  subst h1 h2
  refine (Tr.leaf mixed tlS_ok (v8b (j : Int) _ (j < 1000) ((j + 1 : Nat) : Int) (fun w => w.m = mw ∧ w.f = fw ∧ relPR w.r w.R)) ?_).out fun st' hs => ⟨_, hrel, hs⟩
  have e1 : 0 + (j : Int).toNat = j := by omega
  rw [e1, wrap_up j hj]
  refine bc_mk (fun hlt => ?_) fun _ => ⟨rfl, s33_self _⟩
  have hlt : (j : Int) < (mw : Int) := of_decide_eq_true hlt
  have hjm : j < mw := by omega
  have ht := hT j hjm
  rw [okT] at ht
  obtain ⟨c, s, k, e, n, b, hE, hy⟩ := ht
  have hK : ∀ (r : RT) (R : Nat → RT), relPR r R → (j < 1000 ∧ ∃ w' : LW, (w'.m = mw ∧ w'.f = fw ∧ relPR w'.r w'.R) ∧ stL (tlN (fun v => SV.ren (back L19 44) (gPool R v)) ((j + 1 : Nat) : Int) mw fw r R (r.n : Int)) (tl8 ((j + 1 : Nat) : Int) w')) :=
    fun r R h => ⟨by omega, ⟨mw, fw, r, R⟩, ⟨rfl, rfl, h⟩, s8_le _ _ _ _ _⟩
  refine ob_mk (by simp; omega) (ob_mk rfl (ob_mk (decide_eq_true hjm) ⟨c, s, k, e, n, b, hy, hE, ob_mk rfl ⟨?_, ?_⟩⟩))
  · exact refP_ok (w := ⟨mw, fw, rw', Rw⟩) hrel (enc_ok hE).1 hK
  · exact refP_ok (w := ⟨mw, fw, rw', Rw⟩) hrel (enc_ok hE).1 hK
theorem pEnd {r : RT} {m cr cl : Nat} {lf : Nat → Int} {k : Nat} {x : LX} (hq : q0 k x) : Tr Tryz.prog (tl5 (bodyOf Tryz.f3)) (tlH r m cr cl lf (k : Int) x) (pq nope nope 0) := by
  obtain ⟨⟨hq0, hq1⟩, hA, hB, hT⟩ := hq
  have hB' := hB
  rw [invB] at hB'
  obtain ⟨_, _, _, hmq, htd, _⟩ := hB'
  refine Tr.nx (by kernel_rfl) (Tr.leaf mixed tlS_ok (v30 r m cr cl lf (k : Int) x (fun n f => n ≤ x.q ∧ ∀ j, j < n → f j = x.st j)) ⟨x.b, rfl, ob_mk (decide_eq_true (by omega)) ⟨x.b.m, x.b.td, ⟨hmq, htd⟩, s17_self _ _ _⟩⟩) fun st' hs => ?_
  obtain ⟨mm, f, ⟨hmm, hf⟩, hs⟩ := hs
  refine Tr.le hs (Tr.nx (by kernel_rfl) (Tr.leaf mixed tlS_ok (v31 x mm f) ?_) fun st' hs => ?_)
  · refine bc_mk (fun h => absurd (of_decide_eq_true h) (by omega)) fun _ => ob_mk (by simp; omega) (ob_mk ?_ ⟨hf, s31_self _ _⟩)
    rw [nbeq, nble, show ((mm : Int)).toNat = mm from by omega, nbeq, Nat.ble_eq.mpr hmm, decide_eq_true (show mm ≤ 1000000 by omega)]; rfl
  refine Tr.le hs (Tr.nx (by kernel_rfl) (Tr.leaf mixed tlS_ok (v33 mm f) (s33_le mm f)) fun st' hs => ?_)
  refine Tr.le hs (Tr.nx (by kernel_rfl) (pFor8 (by omega) fun j hj => by rw [hf j hj]; exact hT j (by omega)) fun st' hs => ?_)
  obtain ⟨w, hw, hs⟩ := hs
  refine Tr.le hs (Tr.leaf mixed tlS_ok (v44 w) ⟨(w.r.n : Int), len_in _ _, ?_⟩)
  exact bc_mk (fun _ => rfl) fun h => absurd h (by simp)
theorem tl_tr {r : RT} {m cr cl : Nat} {lf : Nat → Int} (h0 : r.n ≤ cr) (h1 : m ≤ cl) (hsz : ∀ i, i < r.n → (r.nm i).size ≤ reachBytes ∧ (r.b i).size ≤ reachBytes) :
    Tr Tryz.prog (bodyOf Tryz.f3) ⟨[(0, .slc 0 0 r.n cr 6), (1, .slc 1 0 m cl 1)], 212, [.tab false r.n r.cols, .tab false m [.i .i64 lf]], [], 2⟩ (pq nope nope 0) := by
  refine Tr.nx (by kernel_rfl) (Tr.leaf mixed tlS_ok (vA0 r m cr cl lf) (A_self h0 h1)) fun st' hs => Tr.le hs ?_
  refine Tr.nx (by kernel_rfl) (Tr.leaf mixed tlS_ok (vA1 r m cr cl lf) (bc_mk (fun _ => rfl) fun ha => bc_mk (fun _ => rfl) fun hb => ⟨⟨?_, ?_⟩, A_self h0 h1⟩)) fun st' hs => ?_
  · have := of_decide_eq_false ha; omega
  · have := of_decide_eq_false (show decide ((m : Int) > 60) = false from hb); omega
  obtain ⟨⟨hn, hm⟩, hs⟩ := hs
  refine Tr.le hs (Tr.nx (by kernel_rfl) (Tr.leaf mixed tlS_ok (vA3 r m cr cl lf) (A3_self h0 h1)) fun st' hs => ?_)
  refine Tr.le hs (Tr.nx (by kernel_rfl) (Tr.leaf mixed tlS_ok (vA4 r m cr cl lf) (A4_self h0 h1)) fun st' hs => ?_)
  refine Tr.le hs (Tr.nx (by kernel_rfl) (pFor0 h0 h1 hsz (by omega) (by omega)) fun st' hs => ?_)
  obtain ⟨k, x, hq, hs⟩ := hs
  exact Tr.le hs (pEnd hq)
def linksS : Spec := .q fun args blks K => ∃ (r : RT) (m cr cl : Nat) (lf : Nat → Int), args = [.slc 0 0 r.n cr 6, .slc 1 0 m cl 1] ∧ blks = [.tab false r.n r.cols, .tab false m [.i .i64 lf]] ∧
  (r.n ≤ cr ∧ m ≤ cl ∧ ∀ i, i < r.n → (r.nm i).size ≤ reachBytes ∧ (r.b i).size ≤ reachBytes) ∧ K (.v (.bool true))
theorem tl_res : (Tryz.f3).results.toList = [.tmp 4] := by kernel_rfl
theorem tl_st (r : RT) (m cr cl : Nat) (lf : Nat → Int) : (⟨env0 [.slc 0 0 r.n cr 6, .slc 1 0 m cl 1] 0, (Tryz.f3).ntmps, [.tab false r.n r.cols, .tab false m [.i .i64 lf]], [], [Blk.tab false r.n r.cols, .tab false m [.i .i64 lf]].length⟩ : St) = ⟨[(0, .slc 0 0 r.n cr 6), (1, .slc 1 0 m cl 1)], 212, [.tab false r.n r.cols, .tab false m [.i .i64 lf]], [], 2⟩ := by kernel_rfl
theorem links_ok : SpecOK Tryz.prog 3 linksS := by
  refine q_tr Tryz.func3 rfl rfl fun args blks K h => ?_
  obtain ⟨r, m, cr, cl, lf, rfl, rfl, ⟨h0, h1, hsz⟩, hK⟩ := h
  refine ⟨_, rfl, hK, rfl, FnOK.of_tr (c := bodyOf Tryz.f3) Tryz.func3 (by kernel_rfl) (by kernel_rfl) ?_⟩
  rw [tl_st]
  refine (tl_tr h0 h1 hsz).mono fun e st hq => ?_
  cases e with
  | norm => exact hq.elim
  | exit i => exact hq.2.elim
  | ret =>
    have hq : look st.env 4 = some (.v (.bool true)) := hq
    unfold endQ
    dsimp only
    rw [tl_res]
    simp only [resL, resS, hq]
    rfl

end Go.Proofs.YtpdkchpjekglaaaGreat.Sx
