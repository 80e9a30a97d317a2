/- The walk by computation: a function that defers the call of a closure. No condition. -/
import Derived.Test.YtmnenigmkfnciaaGreatDoorSx12
import Derived.Defers
namespace Go.Proofs.YtmnenigmkfnciaaGreatDoor.Sx
open Go
set_option linter.unusedVariables false

def anyDef : List Oper → Bool
  | [] => false
  | o :: r => match o.op with
    | .defer _ => true
    | _ => anyDef r
def hasDef : Code → Bool
  | .region _ ops _ => anyDef ops.toList
  | .seq a b => hasDef a || hasDef b
  | _ => false
/-- As 'vc'; KA: nothing was deferred, KB: this function was, with these. -/
def vd (P : Program) (S : Specs) (I : Nat → St → LK) : Code → St → (Ex → St → Prop) → (FuncId → List SV → List Nat → Ex → St → Prop) → Prop
  | .seq a b, st, KA, KB => match hasDef a with
    | false => vc P S I a st fun e st' => match e with
      | .norm => vd P S I b st' KA KB
      | .exit i => KA (.exit i) st'
      | .ret => KA .ret st'
    | true => vd P S I a st (fun e st' => match e with
        | .norm => False
        | .exit i => KA (.exit i) st'
        | .ret => KA .ret st')
      (fun f l mv e st' => match e with
        | .norm => vc P S I b st' (KB f l mv)
        | .exit i => KB f l mv (.exit i) st'
        | .ret => KB f l mv .ret st')
  | .region _ ops false, st, _, KB => match ops.toList with
    | [o1, o2] => match o1.op, o1.guard, o1.dst with
      | .makeFunc (.func f) first cap, none, some t => match o2.op, o2.guard, o2.dst with
        | .defer c, none, none => match c.callee, c.args.toList with
          | .value (.tmp t'), [] => match evs st.env first.toList, evs st.env cap.toList with
            | some a, some b => match Nat.beq t t' && Nat.ble (t + 1) st.nt with
              | true => KB f (a ++ b) st.mv .norm { st with env := (t, .fn (.func f) a b) :: st.env, mv := [], n0 := st.tbl.length }
              | false => False
            | _, _ => False
          | _, _ => False
        | _, _, _ => False
      | _, _, _ => False
    | _ => False
  | _, _, _, _ => False
def noMv (mv : List Nat) : List SV → Bool
  | [] => true
  | .ptr i _ :: r => !mem mv i && noMv mv r
  | .v _ :: r => noMv mv r
  | _ => false
/-- What a function's body comes to, that defers a call of fnD. -/
def vfD (P : Program) (S : Specs) (I : Nat → St → LK) (fn : Func) (fD : FuncId) (fnD : Func) (args : List SV) (tbl : List Blk) (K : SV → List Blk → List Nat → Prop) : Prop :=
  match fn.body with
  | some c => match Nat.ble args.length fn.ntmps with
    | true => vd P S I c ⟨env0 args 0, fn.ntmps, tbl, [], tbl.length⟩
      (fun e st => match e with
        | .exit _ => False
        | _ => resL P st fn.results.toList fun l => K (oneOf l).normT (normB st.tbl) st.mv)
      (fun f caps mvA e st => match e with
        | .exit _ => False
        | _ => match Nat.beq f fD && noMv st.mv caps with
          | true => vf P S I fnD caps st.tbl fun _ t m => resL P { st with env := purgeEnv m st.env, tbl := t } fn.results.toList fun l => K (oneOf l).normT (normB t) (mvA ++ (st.mv ++ m))
          | false => False)
    | false => False
  | none => False

theorem noMv_spec {mv : List Nat} : ∀ {l : List SV} {i : Nat}, noMv mv l = true → SV.refsL i l = true → i ∉ mv
  | [], i, _, h => by simp [SV.refsL] at h
  | a :: r, i, hn, h => by
    simp only [SV.refsL, Bool.or_eq_true] at h
    cases a with
    | ptr j o =>
      simp only [noMv, Bool.and_eq_true, Bool.not_eq_true'] at hn
      rcases h with h | h
      · simp only [SV.refs] at h
        have := Nat.eq_of_beq_eq_true h; subst this
        intro hx
        rw [(mem_iff _ _).2 hx] at hn
        cases hn.1
      · exact noMv_spec hn.2 h
    | v x =>
      simp only [noMv] at hn
      rcases h with h | h
      · simp [SV.refs] at h
      · exact noMv_spec hn h
    | _ => simp [noMv] at hn

section
variable {P : Program} {S : Specs} {B : Base} {ρ0 : Nat → Nat} {σ0 : Nat → Nat × Nat}
def DefOK (d : Deferred) (f : FuncId) (l : List SV) (n : Nat) (ρ : Nat → Nat) (σ : Nat → Nat × Nat) : Prop :=
  ∃ cap, d.target = .fn (.func f) cap ∧ RelL n ρ σ l (d.args ++ cap).toList
def liftD (B : Base) (ρ0 : Nat → Nat) (σ0 : Nat → Nat × Nat) (KB : FuncId → List SV → List Nat → Ex → St → Prop) (e : Exit) (a : Act) (w : World) : Prop :=
  ∃ d f l mv ρ1 σ1 n1, DefOK d f l n1 ρ1 σ1 ∧ B.n0 ≤ n1 ∧ (∀ i, i < B.n0 → i ∉ mv → ρ1 i = ρ0 i ∧ σ1 i = σ0 i) ∧ lift [d] { B with n0 := n1 } ρ1 σ1 (KB f l mv) e a w

theorem vd_sound {I : Nat → St → LK} (hm : P.follows .mixedOrders = true) (hS : SpecsOK P S) : ∀ (c : Code) (st : St) (KA : Ex → St → Prop) (KB : FuncId → List SV → List Nat → Ex → St → Prop) (a : Act) (w : World),
    vd P S I c st KA KB → SOK [] B ρ0 σ0 st a w → c.wp P (fun e a w => lift [] B ρ0 σ0 KA e a w ∨ liftD B ρ0 σ0 KB e a w) a w
  | .seq x y, st, KA, KB, a, w, h, h0 => by
    simp only [vd] at h
    split at h
    · refine wp_seq (wp_mono (vc_sound hm hS x st _ a w h h0) fun e a' w' hq => ?_)
      cases e with
      | normal => obtain ⟨st', h, h0⟩ := hq; exact vd_sound hm hS y st' KA KB a' w' h h0
      | exit i => exact .inl hq
      | ret => exact .inl hq
      | goto l => exact .inl hq
      | panic c => exact .inl hq
      | outgrown => exact .inl hq
    · refine wp_seq (wp_mono (vd_sound hm hS x st _ _ a w h h0) fun e a' w' hq => ?_)
      cases e with
      | normal =>
        rcases hq with ⟨st', h, _⟩ | ⟨d, f, l, mv, ρ1, σ1, n1, hd, hn, hag, st', h, h0⟩
        · exact h.elim
        · exact wp_mono (vc_sound hm hS y st' _ a' w' h h0) fun e a w hq => .inr ⟨d, f, l, mv, ρ1, σ1, n1, hd, hn, hag, hq⟩
      | exit i => exact hq
      | ret => exact hq
      | goto l => exact hq
      | panic c => exact hq
      | outgrown => exact hq
  | .region id ops false, st, KA, KB, a, w, h, h0 => by
    simp only [vd] at h
    split at h
    case h_2 => exact h.elim
    rename_i o1 o2 hops
    split at h
    case h_2 => exact h.elim
    rename_i f first cap t ho1 hg1 hd1
    split at h
    case h_2 => exact h.elim
    rename_i c ho2 hg2 hd2
    split at h
    case h_2 => exact h.elim
    rename_i t' hc ha
    split at h
    case h_2 => exact h.elim
    rename_i l1 l2 h1 h2
    split at h
    case h_2 => exact h.elim
    rename_i hb
    rw [Bool.and_eq_true] at hb
    have ht := Nat.eq_of_beq_eq_true hb.1
    subst ht
    have hlt := Nat.le_of_ble_eq_true hb.2
    obtain ⟨ρ, σ, hE, hT, hn, hag⟩ := h0
    refine wp_region_list ?_
    rw [hops]
    have r1 := evs_sound hE h1
    have r2 := evs_sound hE h2
    have hv : Rel st.tbl.length ρ σ (.fn (.func f) l1 l2) (.func (.func f) (first.map a.eval) (cap.map a.eval)) := by
      simp only [Rel]
      exact ⟨_, _, rfl, by simpa using r1, by simpa using r2⟩
    have hrun1 : (execOp a.eval o1).run P w = .ok (.value (.func (.func f) (first.map a.eval) (cap.map a.eval))) w := by
      simp [execOp, ho1, Instr.makeFunc]
    have hE1 := hE.put (d := t) hlt hv
    have hw1 : ∀ a' : Act, Region.wanted o1 (yielded ops a'.tmps) = true := fun a' => by simp [Region.wanted, hg1]
    have hw2 : ∀ a' : Act, Region.wanted o2 (yielded ops a'.tmps) = true := fun a' => by simp [Region.wanted, hg2]
    have hargs : c.args = #[] := by apply Array.ext'; simpa using ha
    have hget : (a.put (some t) (.func (.func f) (first.map a.eval) (cap.map a.eval))).eval (.tmp t) = .func (.func f) (first.map a.eval) (cap.map a.eval) := by
      have : t < a.tmps.size := by rw [hE.size]; exact hlt
      simp [Act.eval, Act.put, this]
    have hrun2 : (execOp (a.put (some t) (.func (.func f) (first.map a.eval) (cap.map a.eval))).eval o2).run P w = .ok (.defer { target := .fn (.func f) (cap.map a.eval), args := first.map a.eval }) w := by
      simp [execOp, ho2, resolve, hc, hargs, hget, Deferred.ofValue]
    simp only [wpList, hw1, hw2, if_true]
    left
    unfold Oper.wp
    rw [hrun1]
    simp only [Oper.upon]
    left
    rw [hd1, hrun2]
    simp only [hd2]
    right
    refine ⟨{ target := .fn (.func f) (cap.map a.eval), args := first.map a.eval }, f, l1 ++ l2, st.mv, ρ, σ, st.tbl.length, ⟨cap.map a.eval, rfl, ?_⟩, by rw [← hn.2]; exact hn.1, fun i hi hm => hag i (by rw [hn.2]; exact hi) hm, _, h, ρ, σ, ?_, ?_, ⟨Nat.le_refl _, rfl⟩, fun i _ _ => ⟨rfl, rfl⟩⟩
    · simpa using r1.append r2
    · exact ⟨hE1.size, by rw [← hE1.defers]; rfl, hE1.get⟩
    · exact ⟨hT.gl, hT.fr, hT.lies, hT.dom, hT.domw, hT.inj, hT.mok.base rfl rfl rfl⟩
  | .region id ops true, st, KA, KB, a, w, h, h0 => by simp only [vd] at h
  | .skip, st, KA, KB, a, w, h, h0 => by simp only [vd] at h
  | .cond _ _ _, st, KA, KB, a, w, h, h0 => by simp only [vd] at h
  | .block _ _, st, KA, KB, a, w, h, h0 => by simp only [vd] at h
  | .exit _, st, KA, KB, a, w, h, h0 => by simp only [vd] at h
  | .ret, st, KA, KB, a, w, h, h0 => by simp only [vd] at h
  | .loop _, st, KA, KB, a, w, h, h0 => by simp only [vd] at h
  | .rangeFunc _ _ _ _, st, KA, KB, a, w, h, h0 => by simp only [vd] at h
  | .scope _, st, KA, KB, a, w, h, h0 => by simp only [vd] at h
  | .label _, st, KA, KB, a, w, h, h0 => by simp only [vd] at h
  | .goto _, st, KA, KB, a, w, h, h0 => by simp only [vd] at h
  | .refuse _, st, KA, KB, a, w, h, h0 => by simp only [vd] at h
end

section
variable {P : Program} {S : Specs}
theorem FnOK.of_vfD {f fD : FuncId} {fn fnD : Func} {args : List SV} {tbl : List Blk} {K : SV → List Blk → List Nat → Prop} {I : Nat → St → LK} (hm : P.follows .mixedOrders = true) (hS : SpecsOK P S) (hf : P.funcs[f]? = some fn)
    (hfD : P.funcs[fD]? = some fnD) (hent : Enters P fD) (h : vfD P S I fn fD fnD args tbl K) : FnOK P f args tbl K := by
  intro B ρ σ as w hr hT
  unfold vfD at h
  split at h
  case h_2 => exact h.elim
  rename_i c hb
  split at h
  case h_2 => exact h.elim
  rename_i hle
  have hle := Nat.le_of_ble_eq_true hle
  have hlen := hr.length
  simp at hlen
  refine calls_of_wp_defers hf hb ?_
  have hT1 : TOK ρ σ { B with n0 := tbl.length } tbl w := ⟨hT.gl, hT.fr, hT.lies, hT.dom, hT.domw, hT.inj, hT.mok.base rfl rfl rfl⟩
  have h0 : SOK [] { B with n0 := tbl.length } ρ σ ⟨env0 args 0, fn.ntmps, tbl, [], tbl.length⟩ { tmps := as ++ Array.replicate (fn.ntmps - as.size) undef, defers := [] } w := by
    refine ⟨ρ, σ, ⟨by simp; omega, rfl, fun t s hs => ?_⟩, hT1, ⟨Nat.le_refl _, rfl⟩, fun i _ _ => ⟨rfl, rfl⟩⟩
    obtain ⟨_, x, hx, hrel⟩ := env0_rel hr hs
    have hx : as[t]? = some x := by simpa using hx
    have hlt : t < as.size := (Array.getElem?_eq_some_iff.1 hx).1
    have : (as ++ Array.replicate (fn.ntmps - as.size) undef).getD t undef = x := by
      have h1 : (as ++ Array.replicate (fn.ntmps - as.size) undef)[t]? = some x := by rw [Array.getElem?_append_left hlt]; exact hx
      simp [h1]
    rw [this]; exact hrel
  -- a state at the end, with the results
  have fin : ∀ {ds : List Deferred} {B' : Base} {ρ' : Nat → Nat} {σ' : Nat → Nat × Nat} {st : St} {a' : Act} {w' : World} {mvT : List Nat}, EOK ds st.tbl.length ρ' σ' st.env st.nt a' → TOK ρ' σ' B st.tbl w' → tbl.length ≤ st.tbl.length →
      (∀ i, i < tbl.length → i ∉ mvT → ρ' i = ρ i ∧ σ' i = σ i) → (resL P st fn.results.toList fun l => K (oneOf l).normT (normB st.tbl) mvT) →
      ∃ v, (results fn a'.tmps).run P w' = .ok v w' ∧ FnPost B ρ σ tbl K (.returned v) w' := by
    intro ds B' ρ' σ' st a' w' mvT hE hT' hn hag hres
    obtain ⟨l, vs, hK, hrel, hrun⟩ := resL_sound hE hT' hres
    obtain ⟨v, hv, hres⟩ := results_run hrel hrun
    have hl : (normB st.tbl).length = st.tbl.length := by rw [normB_eq]; simp
    exact ⟨v, hres, _, v, _, _, ρ', σ', rfl, by rw [hl]; exact hv.normT, by rw [hl]; exact hn, hag, hT'.norm, hK⟩
  have old : ∀ {ρ' σ' t} {w' : World} {n1 : Nat}, TOK ρ' σ' { B with n0 := n1 } t w' → TOK ρ' σ' B t w' := fun hT' => ⟨hT'.gl, hT'.fr, hT'.lies, hT'.dom, hT'.domw, hT'.inj, hT'.mok.base rfl rfl rfl⟩
  refine wp_mono (vd_sound hm hS c _ _ _ _ w h h0) fun e a' w' hq => ?_
  have finA : ∀ st, SOK [] { B with n0 := tbl.length } ρ σ st a' w' → (resL P st fn.results.toList fun l => K (oneOf l).normT (normB st.tbl) st.mv) → Leaves P fn a'.tmps (FnPost B ρ σ tbl K) a'.defers .returning w' := by
    rintro st ⟨ρ', σ', hE, hT', hn, hag⟩ hres
    rw [hE.defers]
    have hn0 : st.n0 = tbl.length := hn.2
    rw [hn0] at hn hag
    exact fin (B' := B) hE (old hT') hn.1 hag hres
  have finB : ∀ d fx caps mvA ρ1 σ1 n1, DefOK d fx caps n1 ρ1 σ1 → tbl.length ≤ n1 → (∀ i, i < tbl.length → i ∉ mvA → ρ1 i = ρ i ∧ σ1 i = σ i) → ∀ st, SOK [d] { ({ B with n0 := tbl.length } : Base) with n0 := n1 } ρ1 σ1 st a' w' →
      (match Nat.beq fx fD && noMv st.mv caps with
        | true => vf P S I fnD caps st.tbl fun _ t m => resL P { st with env := purgeEnv m st.env, tbl := t } fn.results.toList fun l => K (oneOf l).normT (normB t) (mvA ++ (st.mv ++ m))
        | false => False) → Leaves P fn a'.tmps (FnPost B ρ σ tbl K) a'.defers .returning w' := by
    rintro d fx caps mvA ρ1 σ1 n1 ⟨cap, htar, hcaps⟩ hn1 hag1 st ⟨ρ', σ', hE, hT', hn, hag⟩ hk
    split at hk
    case h_2 => exact hk.elim
    rename_i hb
    rw [Bool.and_eq_true] at hb
    have hfx := Nat.eq_of_beq_eq_true hb.1
    subst hfx
    rw [hE.defers]
    have hn0 : st.n0 = n1 := hn.2
    rw [hn0] at hn hag
    have hc2 : RelL st.tbl.length ρ' σ' caps (d.args ++ cap).toList := RelL.mono hn.1 _ _ (fun i hi hx => hag i hi (noMv_spec hb.2 hx)) hcaps
    obtain ⟨cD, hbD, hwp⟩ := wp_of_vf hm hS hk hc2 (old hT')
    refine ⟨by simp, .func fx, cap, fx, d.args ++ cap, htar, ?_, ?_⟩
    · rw [htar]
      simp only [invoke]
      exact hent _ _
    · refine (callsD_of_wp (u := .returning) hfD hbD hwp).mono fun e u' w'' ⟨hu, hp⟩ => ?_
      obtain ⟨s, v, t, m, ρ2, σ2, rfl, hrel, hle2, hag2, hT2, hres⟩ := hp
      subst hu
      have hE2 := hE.purge hle2 hag2
      have : Leaves P fn a'.tmps (FnPost B ρ σ tbl K) [] .returning w'' := by
        refine fin (B' := B) (st := { st with env := purgeEnv m st.env, tbl := t }) (mvT := mvA ++ (st.mv ++ m)) hE2 hT2 (Nat.le_trans hn1 (Nat.le_trans hn.1 hle2)) (fun i hi hm => ?_) hres
        simp only [List.mem_append, not_or] at hm
        have g1 := hag2 i (by have := hn.1; omega) hm.2.2
        have g2 := hag i (by omega) hm.2.1
        have g3 := hag1 i hi hm.1
        exact ⟨g1.1.trans (g2.1.trans g3.1), g1.2.trans (g2.2.trans g3.2)⟩
      exact this
  cases e with
  | normal =>
    rcases hq with ⟨st, h, h0⟩ | ⟨d, f, l, mv, ρ1, σ1, n1, hd, hn, hag, st, h, h0⟩
    · exact finA st h0 h
    · exact finB d f l mv ρ1 σ1 n1 hd hn hag st h0 h
  | ret =>
    rcases hq with ⟨st, h, h0⟩ | ⟨d, f, l, mv, ρ1, σ1, n1, hd, hn, hag, st, h, h0⟩
    · exact finA st h0 h
    · exact finB d f l mv ρ1 σ1 n1 hd hn hag st h0 h
  | exit i =>
    rcases hq with ⟨st, h, h0⟩ | ⟨d, f, l, mv, ρ1, σ1, n1, hd, hn, hag, st, h, h0⟩
    · exact h.elim
    · exact h.elim
  | goto l => rcases hq with hq | ⟨d, f, l, mv, ρ1, σ1, n1, hd, hn, hag, hq⟩ <;> exact hq.elim
  | panic c => rcases hq with hq | ⟨d, f, l, mv, ρ1, σ1, n1, hd, hn, hag, hq⟩ <;> exact hq.elim
  | outgrown => rcases hq with hq | ⟨d, f, l, mv, ρ1, σ1, n1, hd, hn, hag, hq⟩ <;> exact hq.elim

/-- A call that is met by its body, which defers. -/
def inlD (P : Program) (S : Specs) (I : Nat → St → LK) (fn : Func) (fD : FuncId) (fnD : Func) : Spec := .m fun args blks K => vfD P S I fn fD fnD args blks K
theorem inlD_ok {I : Nat → St → LK} {f fD : FuncId} {fn fnD : Func} (hm : P.follows .mixedOrders = true) (hS : SpecsOK P S) (hf : P.funcs[f]? = some fn) (hn : (fn.name == "runtime.NumGoroutine") = false) (hb : fn.body.isNone = false)
    (hfD : P.funcs[fD]? = some fnD) (hnD : (fnD.name == "runtime.NumGoroutine") = false) (hbD : fnD.body.isNone = false) : SpecOK P f (inlD P S I fn fD fnD) :=
  ⟨enters_of hf hn hb, fun args blks K hg => FnOK.of_vfD hm hS hf hfD (enters_of hfD hnD hbD) hg⟩
end
end Go.Proofs.YtmnenigmkfnciaaGreatDoor.Sx
