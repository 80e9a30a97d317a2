/- The walk by computation: less told behind a call, calls met by their bodies. No condition. -/
import Derived.Test.YtmnenigmkfnciaaGreatDoorSx11
namespace Go.Proofs.YtmnenigmkfnciaaGreatDoor.Sx
open Go
variable {ds : List Deferred}
set_option linter.unusedVariables false

section
variable {P : Program} {S : Specs}

/-- Behind a call less is told. -/
theorem FnOK.le {f : FuncId} {args : List SV} {tbl : List Blk} {K : SV → List Blk → List Nat → Prop}
    (h : FnOK P f args tbl fun s t m => ∃ s' t' m', SV.le s s' ∧ tblLe t t' ∧ (s'.lt t'.length && tblLt t'.length t' && Nat.ble tbl.length t'.length && subB m m') = true ∧ K s' t' m') : FnOK P f args tbl K :=
  fun B ρ σ as w hr hT => (h B ρ σ as w hr hT).mono fun e w' ⟨s, v, t, m, ρ', σ', h1, h2, h3, h4, h5, s', t', m', h6, h7, h8, h9⟩ => by
    simp only [Bool.and_eq_true] at h8
    obtain ⟨⟨⟨h10, h11⟩, h12⟩, h13⟩ := h8
    have h12 := Nat.le_of_ble_eq_true h12
    refine ⟨s', v, t', m', ρ', fun i => if i < t.length then σ' i else (0, 0), h1, ?_, h12, fun i hi hm => ?_, h5.le h7 h11, h9⟩
    · exact Rel.cutLe (fun i hi => ⟨rfl, by simp [hi]⟩) (fun i hi => by simp [Nat.not_lt.2 hi]) s' s v h6 h10 h2
    · have hlt : i < t.length := by omega
      obtain ⟨e1, e2⟩ := h4 i hi (fun hx => hm (subB_spec h13 hx))
      exact ⟨e1, by simp [hlt, e2]⟩
/-- More blocks may have moved. -/
theorem FnOK.mvs {f : FuncId} {args : List SV} {tbl : List Blk} {K : SV → List Blk → List Nat → Prop}
    (h : FnOK P f args tbl fun s t m => ∃ m', subB m m' = true ∧ K s t m') : FnOK P f args tbl K :=
  fun B ρ σ as w hr hT => (h B ρ σ as w hr hT).mono fun e w' ⟨s, v, t, m, ρ', σ', h1, h2, h3, h4, h5, m', h6, h7⟩ =>
    ⟨s, v, t, m', ρ', σ', h1, h2, h3, fun i hi hm => h4 i hi (fun hx => hm (subB_spec h6 hx)), h5, h7⟩

/-- Only the first n blocks are told, more may have moved. -/
theorem FnOK.trimQ {f : FuncId} {args : List SV} {tbl : List Blk} {K : SV → List Blk → List Nat → Prop} (n : Nat) (hn : tbl.length ≤ n)
    (h : FnOK P f args tbl fun s t m => ∃ m', ((s.lt n && tblLt n (t.take n)) && (Nat.beq (t.take n).length n && subB m m')) = true ∧ K s (t.take n) m') : FnOK P f args tbl K := by
  refine FnOK.trim n (FnOK.mvs (h.mono fun s t m ⟨m', h1, h2⟩ => ⟨m', ?_, ?_, h2⟩))
  · simp only [Bool.and_eq_true] at h1; exact h1.2.2
  · simp only [Bool.and_eq_true] at h1 ⊢
    have := Nat.eq_of_beq_eq_true h1.2.1
    rw [List.length_take] at this
    exact ⟨⟨⟨h1.1.1, h1.1.2⟩, Nat.ble_eq.mpr hn⟩, Nat.ble_eq.mpr (by omega)⟩

def allRo : List Blk → Bool
  | [] => true
  | b :: r => (!b.wr && !b.mw) && allRo r
theorem allRo_get : ∀ {l : List Blk} {i : Nat} {b : Blk}, allRo l = true → l[i]? = some b → b.wr = false ∧ b.mw = false
  | b :: r, 0, c, h, hi => by simp [allRo] at h; simp at hi; subst hi; exact h.1
  | b :: r, i + 1, c, h, hi => by simp only [allRo, Bool.and_eq_true] at h; exact allRo_get h.2 (by simpa using hi)
/-- A function that is given memory to read alone. -/
theorem q_ro {f : FuncId} {fn : Func} {g : List SV → List Blk → (SV → Prop) → Prop} (hm : P.follows .mixedOrders = true) (hS : SpecsOK P S) (hf : P.funcs[f]? = some fn) (hn : (fn.name == "runtime.NumGoroutine") = false) (hb : fn.body.isNone = false)
    (h : ∀ args blks K, g args blks K → ∃ s, (pvo s).isSome = true ∧ K s ∧ (tblLt blks.length blks && allRo blks) = true ∧ ∃ I, vf P S I fn args blks fun s' _ _ => s' = s) : SpecOK P f (.q g) :=
  ⟨enters_of hf hn hb, fun args blks K hg => by
    obtain ⟨s, h1, h2, h3, I, h4⟩ := h args blks K hg
    rw [Bool.and_eq_true] at h3
    refine ⟨s, h1, h2, fun B ρ σ as w hr hT => ?_⟩
    have hT' : TOK ρ σ { A := (List.range blks.length).map ρ, W := [], AM := (List.range blks.length).map ρ, WM := [], w0 := w } blks w := by
      refine ⟨hT.gOK (fun x hx => absurd hx (by simp)), Fr.refl _ _, hT.lies, fun i b hi hd hs => ?_, fun i b hi hw hs => ?_, hT.inj, hT.mok.is, fun i b hi hb => ?_, fun i b hi hb => ?_, hT.mok.inj⟩
      · left
        exact List.mem_map.2 ⟨i, List.mem_range.2 (List.getElem?_eq_some_iff.1 hi).1, rfl⟩
      · rw [(allRo_get h3.2 hi).1] at hw; cases hw
      · left
        exact List.mem_map.2 ⟨i, List.mem_range.2 (List.getElem?_eq_some_iff.1 hi).1, rfl⟩
      · rw [(allRo_get h3.2 hi).2] at hb; cases hb
    refine ((FnOK.of_vf hm hS hf h4) _ ρ σ as w hr hT').mono fun e w' ⟨s', v, t, m, ρ', σ', g1, g2, g3, g4, g5, g6⟩ => ?_
    subst g6
    have hfr : Fr [] w w' := g5.fr
    obtain ⟨u, hu⟩ := Option.isSome_iff_exists.1 h1
    have hrel : Rel blks.length ρ σ s' v := by
      have e1 := (pvo_rel (n := t.length) (ρ := ρ') (σ := σ') s' u v hu).1 g2
      exact (pvo_rel s' u v hu).2 e1
    refine ⟨s', v, blks, [], ρ, σ, g1, hrel, Nat.le_refl _, fun _ _ _ => ⟨rfl, rfl⟩, ?_, rfl, rfl, rfl⟩
    refine ⟨hT.gl, hT.fr.call hfr (by simp), fun i b hi hd => ?_, fun i b hi hd hs => hT.dom i b hi hd hs, fun i b hi hd hs => hT.domw i b hi hd hs, hT.inj, hT.mok.turn fun i b hi hm => hfr.block _ (hT.mlt hi hm) (by simp)⟩
    rcases hT.lies i b hi hd with h0 | ⟨pre, hp, hl⟩
    · exact .inl h0
    · exact .inr ⟨pre, hp, hl.of_block (hfr.block _ hl.lt (by simp))⟩⟩

/-- The same, by contracts of its own for each case. -/
theorem q_roX {f : FuncId} {fn : Func} {g : List SV → List Blk → (SV → Prop) → Prop} (hm : P.follows .mixedOrders = true) (hf : P.funcs[f]? = some fn) (hn : (fn.name == "runtime.NumGoroutine") = false) (hb : fn.body.isNone = false)
    (h : ∀ args blks K, g args blks K → ∃ s, (pvo s).isSome = true ∧ K s ∧ (tblLt blks.length blks && allRo blks) = true ∧ ∃ S I, SpecsOK P S ∧ vf P S I fn args blks fun s' _ _ => s' = s) : SpecOK P f (.q g) :=
  ⟨enters_of hf hn hb, fun args blks K hg => by
    obtain ⟨s, h1, h2, h3, S, I, hS, h4⟩ := h args blks K hg
    exact (q_ro (g := fun a b K => a = args ∧ b = blks ∧ K s) hm hS hf hn hb (fun a b K ⟨e1, e2, hK⟩ => by subst e1 e2; exact ⟨s, h1, hK, h3, I, h4⟩)).2 args blks K ⟨rfl, rfl, h2⟩⟩

mutual
def SV.okS : SV → Prop
  | .slc _ _ l c _ => l ≤ c
  | .agg l | .tup l => SV.okSL l
  | .fn _ a b => SV.okSL a ∧ SV.okSL b
  | .ifc _ s => SV.okS s
  | _ => True
def SV.okSL : List SV → Prop
  | [] => True
  | a :: l => SV.okS a ∧ SV.okSL l
end
theorem veqK_self (x : Value) {K : Prop} (h : K) : veqK x x K := by
  unfold veqK
  split
  · rename_i k x k' y hh
    split
    · exact ob_mk (by simp_all) h
    · rename_i hk; simp_all
  · exact ob_mk (by simp_all) h
  · exact ob_mk (by simp_all [(seq_iff _ _).2]) h
  · split
    · exact h
    · exact ⟨by simp_all, h⟩
mutual
theorem leK_self : ∀ (s : SV) (K : Prop), s.okS → K → SV.leK s s K
  | .unk, K, _, h => h
  | .v x, K, _, h => by simp only [SV.leK]; exact veqK_self x h
  | .ptr i o, K, _, h => by simp only [SV.leK]; exact ob_mk (Nat.beq_refl _) (ob_mk (Nat.beq_refl _) h)
  | .slc i o l c s, K, hs, h => by
    simp only [SV.okS] at hs
    simp only [SV.leK]
    exact ob_mk (Nat.beq_refl _) (ob_mk (Nat.beq_refl _) (ob_mk (Nat.beq_refl _) (ob_mk (Nat.ble_eq.mpr (Nat.le_refl _)) (ob_mk (Nat.ble_eq.mpr hs) (ob_mk (Nat.beq_refl _) h)))))
  | .ia k l, K, _, h => by
    simp only [SV.leK, decide_true]
    exact ob_mk (by simp) h
  | .agg l, K, hs, h => by simp only [SV.leK]; exact leLK_self l K (by simpa [SV.okS] using hs) h
  | .tup l, K, hs, h => by simp only [SV.leK]; exact leLK_self l K (by simpa [SV.okS] using hs) h
  | .fn f a b, K, hs, h => by
    simp only [SV.okS] at hs
    simp only [SV.leK, decide_true]
    exact leLK_self a _ hs.1 (leLK_self b _ hs.2 h)
  | .mp i, K, _, h => by simp only [SV.leK]; exact ob_mk (Nat.beq_refl _) h
  | .ifc t s, K, hs, h => by
    simp only [SV.okS] at hs
    simp only [SV.leK]
    exact ob_mk (Nat.beq_refl _) (leK_self s _ hs h)
  | .pix i o s x c, K, _, h => by simp only [SV.leK]; exact ob_mk (Nat.beq_refl _) (ob_mk (Nat.beq_refl _) (ob_mk (Nat.beq_refl _) (ob_mk (Nat.beq_refl _) (ob_mk (Nat.beq_refl _) h))))
theorem leLK_self : ∀ (l : List SV) (K : Prop), SV.okSL l → K → SV.leLK l l K
  | [], K, _, h => h
  | a :: l, K, hs, h => by
    simp only [SV.okSL] at hs
    simp only [SV.leLK]
    exact leK_self a _ hs.1 (leLK_self l K hs.2 h)
end
theorem preLeK_self : ∀ (l : List SV) (K : Prop), SV.okSL l → K → preLeK l l K
  | [], K, _, h => h
  | a :: l, K, hs, h => by
    simp only [SV.okSL] at hs
    simp only [preLeK]
    exact leK_self a _ hs.1 (preLeK_self l K hs.2 h)
def Blk.okS : Blk → Prop
  | .cells _ l => SV.okSL l
  | .map _ pl ks g => ∀ y ∈ ks.vals, (pl = true → plainS (g y) = true) ∧ (g y).okS
  | _ => True
def okST : List Blk → Prop
  | [] => True
  | b :: r => b.okS ∧ okST r
theorem colsEqK_self (n : Nat) : ∀ (l : List Col) (K : Prop), K → colsEqK n l l K
  | [], K, h => h
  | a :: l, K, h => by
    simp only [colsEqK]
    cases a with
    | i k f => simp only [colEqK, decide_true]; exact ⟨fun _ _ => trivial, colsEqK_self n l K h⟩
    | s f => exact ⟨fun _ _ => rfl, colsEqK_self n l K h⟩
    | b f => exact ⟨fun _ _ => rfl, colsEqK_self n l K h⟩
theorem ksEqK_self (a : KS) (K : Prop) (h : K) : ksEqK a a K := by
  cases a with
  | i k l => simp only [ksEqK, decide_true]; exact ob_mk (by simp) h
  | s l => simp only [ksEqK]; exact ⟨trivial, h⟩
  | c k us f => simp only [ksEqK, decide_true]; exact ob_mk (by simp) ⟨fun _ _ => trivial, h⟩
theorem le_self (s : SV) (h : s.okS) : SV.le s s := (SV.leK_le s s True (leK_self s True h trivial)).1
theorem blkLeK_self (b : Blk) (K : Prop) (hb : b.okS) (h : K) : blkLeK b b K := by
  cases b with
  | dead => exact h
  | cells w l => simp only [blkLeK]; exact ob_mk (by cases w <;> rfl) (preLeK_self l K hb h)
  | ints w k l => simp only [blkLeK, decide_true]; exact ob_mk (by cases w <;> rfl) (ob_mk (by simp) h)
  | tab w n cols => simp only [blkLeK]; exact ob_mk (by cases w <;> rfl) (ob_mk (Nat.ble_eq.mpr (Nat.le_refl n)) (colsEqK_self n cols K h))
  | map w pl ks g =>
    simp only [blkLeK]
    refine ob_mk (by cases w <;> rfl) (ksEqK_self ks _ ?_)
    cases pl with
    | true => exact ⟨fun y hy => ⟨(hb y hy).1 rfl, le_self _ (hb y hy).2⟩, h⟩
    | false => exact ⟨fun y hy => le_self _ (hb y hy).2, h⟩
theorem tblLeK_self : ∀ (t : List Blk) (K : Prop), okST t → K → tblLeK t t K
  | [], K, _, h => h
  | b :: r, K, hs, h => by
    simp only [okST] at hs
    simp only [tblLeK]
    exact blkLeK_self b _ hs.1 (tblLeK_self r K hs.2 h)
theorem tblLe_self (t : List Blk) (h : okST t) : tblLe t t := (tblLeK_le t t True (tblLeK_self t True h trivial)).1

/-- The first so many are themselves, or have moved. -/
def headM : Nat → List Nat → List Nat → Nat → Bool
  | 0, _, _, _ => true
  | n + 1, j :: r, mv, i => (mem mv i || Nat.beq j i) && headM n r mv (i + 1)
  | _ + 1, [], _, _ => false
theorem headM_spec : ∀ {n : Nat} {js mv : List Nat} {i : Nat}, headM n js mv i = true → n ≤ js.length ∧ ∀ k, k < n → (i + k) ∉ mv → js.getD k 0 = i + k
  | 0, js, mv, i, h => ⟨Nat.zero_le _, fun k hk => by omega⟩
  | n + 1, [], mv, i, h => by simp [headM] at h
  | n + 1, j :: r, mv, i, h => by
    simp only [headM, Bool.and_eq_true, Bool.or_eq_true] at h
    obtain ⟨h1, h2⟩ := headM_spec h.2
    refine ⟨by simp; omega, fun k hk hm => ?_⟩
    cases k with
    | zero =>
      rcases h.1 with h3 | h3
      · exact absurd ((mem_iff _ _).1 h3) hm
      · simpa using Nat.eq_of_beq_eq_true h3
    | succ k =>
      have := h2 k (by omega) (by rwa [show i + 1 + k = i + (k + 1) by omega])
      simp only [List.getD_cons_succ]
      omega
/-- Of the blocks behind a call just some are kept; the first may have moved. -/
theorem FnOK.keepM {f : FuncId} {args : List SV} {tbl : List Blk} {K : SV → List Blk → List Nat → Prop}
    (h : FnOK P f args tbl fun s t m => ∃ js m' bs, (headM tbl.length js m' 0 && (okJs t [s] js && subB m m')) = true ∧ pick t (pos js) js = some bs ∧ K (s.ren (pos js)) bs m') : FnOK P f args tbl K :=
  fun B ρ σ as w hr hT => (h B ρ σ as w hr hT).mono fun e w' ⟨s, v, t, m, ρ', σ', h1, h2, h3, h4, h5, js, m', bs, h6, h7, h8⟩ => by
    simp only [Bool.and_eq_true] at h6
    obtain ⟨h9, h10, h13⟩ := h6
    obtain ⟨h11, h12⟩ := headM_spec h9
    have hrel := RelL.callee (u := [v]) h10 h7 ⟨v, [], rfl, h2, rfl⟩
    obtain ⟨b, l, e1, hrel, e2⟩ := hrel
    cases e1
    refine ⟨_, v, bs, m', _, _, h1, hrel, by rw [(pick_get h7).1]; exact h11, fun i hi hm => ?_, h5.keep h10 h7, h8⟩
    have := h12 i hi (by rw [Nat.zero_add]; exact hm)
    rw [Nat.zero_add] at this
    simp only [this]
    exact h4 i hi (fun hx => hm (subB_spec h13 hx))

/-- A call that is met by its body. -/
def inl (P : Program) (S : Specs) (I : Nat → St → LK) (fn : Func) : Spec := .m fun args blks K => vf P S I fn args blks K
theorem inl_ok {I : Nat → St → LK} {f : FuncId} {fn : Func} (hm : P.follows .mixedOrders = true) (hS : SpecsOK P S) (hf : P.funcs[f]? = some fn) (hn : (fn.name == "runtime.NumGoroutine") = false) (hb : fn.body.isNone = false) : SpecOK P f (inl P S I fn) :=
  ⟨enters_of hf hn hb, fun args blks K hg => FnOK.of_vf hm hS hf hg⟩
/-- A function whose spec is told of its body's outcome. -/
theorem m_le {f : FuncId} {fn : Func} {g : List SV → List Blk → (SV → List Blk → List Nat → Prop) → Prop} (hm : P.follows .mixedOrders = true) (hS : SpecsOK P S) (hf : P.funcs[f]? = some fn) (hn : (fn.name == "runtime.NumGoroutine") = false) (hb : fn.body.isNone = false)
    (h : ∀ args blks K, g args blks K → ∃ I, vf P S I fn args blks fun s t m => ∃ s' t' m', SV.le s s' ∧ tblLe t t' ∧ (s'.lt t'.length && tblLt t'.length t' && Nat.ble blks.length t'.length && subB m m') = true ∧ K s' t' m') : SpecOK P f (.m g) :=
  ⟨enters_of hf hn hb, fun args blks K hg => by
    obtain ⟨I, h1⟩ := h args blks K hg
    exact FnOK.le (FnOK.of_vf hm hS hf h1)⟩
/-- A function that is given nothing and gives true. -/
def closedS : Spec := .q fun args blks K => match args, blks with
  | [], [] => K (.v (.bool true))
  | _, _ => False
theorem closed_ok {I : Nat → St → LK} {f : FuncId} {fn : Func} (hm : P.follows .mixedOrders = true) (hS : SpecsOK P S) (hf : P.funcs[f]? = some fn) (hn : (fn.name == "runtime.NumGoroutine") = false) (hb : fn.body.isNone = false)
    (h : ∀ K : SV → Prop, (vf P S I fn [] [] fun s _ _ => K s) = K (.v (.bool true))) : SpecOK P f closedS :=
  ⟨enters_of hf hn hb, fun args blks K hg => by
    dsimp only at hg
    split at hg
    · refine ⟨.v (.bool true), rfl, hg, ?_⟩
      have h1 : vf P S I fn [] [] fun s _ _ => s = .v (.bool true) := by rw [h fun s => s = .v (.bool true)]
      have h2 := FnOK.of_vf hm hS hf h1
      intro B ρ σ as w hr hT
      refine (h2 B ρ σ as w hr hT).mono fun e w' ⟨s, v, t, m, ρ', σ', g1, g2, g3, g4, g5, g6⟩ => ?_
      subst g6
      refine ⟨.v (.bool true), v, [], [], ρ', σ', g1, (by simpa [Rel] using g2), Nat.le_refl _, fun i hi => absurd hi (by simp), ?_, rfl, rfl, rfl⟩
      exact g5.trim 0 rfl (Nat.zero_le _)
    · exact hg.elim⟩
end
end Go.Proofs.YtmnenigmkfnciaaGreatDoor.Sx
