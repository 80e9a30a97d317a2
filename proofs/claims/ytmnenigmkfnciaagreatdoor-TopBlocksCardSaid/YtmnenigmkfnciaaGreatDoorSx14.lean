/- The walk by computation, piece by piece: what a piece of code does, from a state that is told to others. No condition. -/
import Derived.Test.YtmnenigmkfnciaaGreatDoorSx13
namespace Go.Proofs.YtmnenigmkfnciaaGreatDoor.Sx
open Go
set_option linter.unusedVariables false
def Tr (P : Program) (c : Code) (st : St) (Q : Ex → St → Prop) : Prop :=
  ∀ (ds : List Deferred) (B : Base) (ρ0 : Nat → Nat) (σ0 : Nat → Nat × Nat) (a : Act) (w : World), SOK ds B ρ0 σ0 st a w → c.wp P (lift ds B ρ0 σ0 Q) a w
/-- All that the second state is told to be, the first is. -/
def stL (st st' : St) : Prop := stLe st st' True
/-- On to the next piece, or out. -/
def nxt (N : St → Prop) (Q : Ex → St → Prop) : Ex → St → Prop := fun e st => match e with
  | .norm => N st
  | .exit i => Q (.exit i) st
  | .ret => Q .ret st
section
variable {P : Program} {S : Specs} {c : Code} {st : St} {Q : Ex → St → Prop}
theorem Tr.of_vc {I : Nat → St → LK} (hm : P.follows .mixedOrders = true) (hS : SpecsOK P S) (h : vc P S I c st Q) : Tr P c st Q :=
  fun ds B ρ0 σ0 a w h0 => vc_sound hm hS c st Q a w h h0
theorem lift_mono {ds : List Deferred} {B : Base} {ρ0 : Nat → Nat} {σ0 : Nat → Nat × Nat} {Q Q' : Ex → St → Prop} (h : ∀ e st, Q e st → Q' e st) (e : Exit) (a : Act) (w : World) (hq : lift ds B ρ0 σ0 Q e a w) : lift ds B ρ0 σ0 Q' e a w := by
  cases e with
  | normal => obtain ⟨st, h1, h2⟩ := hq; exact ⟨st, h _ _ h1, h2⟩
  | exit i => obtain ⟨st, h1, h2⟩ := hq; exact ⟨st, h _ _ h1, h2⟩
  | ret => obtain ⟨st, h1, h2⟩ := hq; exact ⟨st, h _ _ h1, h2⟩
  | goto l => exact hq
  | panic c => exact hq
  | outgrown => exact hq
theorem Tr.mono {Q' : Ex → St → Prop} (h : Tr P c st Q) (hQ : ∀ e st, Q e st → Q' e st) : Tr P c st Q' :=
  fun ds B ρ0 σ0 a w h0 => wp_mono (h ds B ρ0 σ0 a w h0) fun e a w hq => lift_mono hQ e a w hq
theorem Tr.le {st' : St} (hle : stL st st') (h : Tr P c st' Q) : Tr P c st Q :=
  fun ds B ρ0 σ0 a w h0 => h ds B ρ0 σ0 a w (stLe_sound h0 hle).2
theorem Tr.seq {x y : Code} {N : St → Prop} (h1 : Tr P x st (nxt N Q)) (h2 : ∀ st', N st' → Tr P y st' Q) : Tr P (.seq x y) st Q := fun ds B ρ0 σ0 a w h0 => by
  refine wp_seq (wp_mono (h1 ds B ρ0 σ0 a w h0) fun e a' w' hq => ?_)
  cases e with
  | normal => obtain ⟨st', h, h0⟩ := hq; exact h2 st' h ds B ρ0 σ0 a' w' h0
  | exit i => exact hq
  | ret => exact hq
  | goto l => exact hq
  | panic c => exact hq
  | outgrown => exact hq
def sL : Code → Code
  | .seq a _ => a
  | c => c
def sR : Code → Code
  | .seq _ b => b
  | c => c
def isSq : Code → Bool
  | .seq _ _ => true
  | _ => false
def bB : Code → Code
  | .block _ (.loop c) => c
  | .block _ c => c
  | c => c
def isBk (id : Nat) : Code → Bool
  | .block i (.loop _) => false
  | .block i _ => Nat.beq i id
  | _ => false
def isLp (id : Nat) : Code → Bool
  | .block i (.loop _) => Nat.beq i id
  | _ => false
theorem Tr.sq {N : St → Prop} (hc : isSq c = true) (h1 : Tr P (sL c) st (nxt N Q)) (h2 : ∀ st', N st' → Tr P (sR c) st' Q) : Tr P c st Q := by
  cases c with
  | seq x y => exact Tr.seq h1 h2
  | _ => cases hc
theorem Tr.bk {id : Nat} (hc : isBk id c = true) (h : Tr P (bB c) st (inB id Q)) : Tr P c st Q := by
  cases c with
  | block i d =>
    have key : Nat.beq i id = true ∧ Tr P d st (inB id Q) := by
      cases d with
      | loop e => cases hc
      | _ => exact ⟨hc, h⟩
    have hi := Nat.eq_of_beq_eq_true key.1
    subst hi
    exact fun ds B ρ0 σ0 a w h0 => wp_block (wp_mono (key.2 ds B ρ0 σ0 a w h0) fun e a' w' hq => lift_inB hq)
  | _ => cases hc
theorem Tr.lp {X : Type} {id : Nat} (n : Nat) (q : Nat → X → Prop) (sh : Nat → X → St) (x0 : X) (hc : isLp id c = true) (h0 : q 0 x0) (hle : stL st (sh 0 x0))
    (hr : ∀ k, k ≤ n → ∀ x, q k x → Tr P (bB c) (sh k x) (nxt (fun st' => k < n ∧ ∃ x', q (k + 1) x' ∧ stL st' (sh (k + 1) x')) (inB id Q))) : Tr P c st Q := by
  cases c with
  | block i d =>
    cases d with
    | loop e =>
      have hi := Nat.eq_of_beq_eq_true (show Nat.beq i id = true from hc)
      subst hi
      intro ds B ρ0 σ0 a w hS
      have hS' := (stLe_sound hS hle).2
      refine wp_block ?_
      refine wp_mono (Q := lift ds B ρ0 σ0 (offN (inB i Q))) ?_ fun e a' w' hq => lift_offN hq
      refine wp_loop_ghost (fun m a w => ∃ k x, k + m = n ∧ q k x ∧ SOK ds B ρ0 σ0 (sh k x) a w) n ⟨0, x0, by omega, h0, hS'⟩ ?_
      rintro m a w ⟨k, x, hk, hq, h0⟩
      refine wp_mono (hr k (by omega) x hq ds B ρ0 σ0 a w h0) fun e a' w' hq => ?_
      cases e with
      | normal =>
        obtain ⟨st', ⟨h1, x', h3, h2⟩, h0⟩ := hq
        exact ⟨n - (k + 1), by omega, k + 1, x', by omega, h3, (stLe_sound h0 h2).2⟩
      | exit i => exact hq
      | ret => exact hq
      | goto l => exact hq
      | panic c => exact hq
      | outgrown => exact hq
    | _ => cases hc
  | _ => cases hc
/-- What a function's end comes to. -/
def endQ (P : Program) (fn : Func) (K : SV → List Blk → List Nat → Prop) : Ex → St → Prop := fun e st => match e with
  | .exit _ => False
  | _ => resL P st fn.results.toList fun l => K (oneOf l).normT (normB st.tbl) st.mv
theorem FnOK.of_tr {f : FuncId} {fn : Func} {args : List SV} {tbl : List Blk} {K : SV → List Blk → List Nat → Prop} (hf : P.funcs[f]? = some fn) (hb : fn.body = some c) (hle : Nat.ble args.length fn.ntmps = true)
    (h : Tr P c ⟨env0 args 0, fn.ntmps, tbl, [], tbl.length⟩ (endQ P fn K)) : FnOK P f args tbl K := by
  intro B ρ σ us w hr hT
  refine calls_of_wp hf hb ?_
  have hle := Nat.le_of_ble_eq_true hle
  have hlen := hr.length
  simp at hlen
  have hT1 : TOK ρ σ { B with n0 := tbl.length } tbl w := ⟨hT.gl, hT.fr, hT.lies, hT.dom, hT.domw, hT.inj, hT.mok.base rfl rfl rfl⟩
  have h0 : SOK [] { B with n0 := tbl.length } ρ σ ⟨env0 args 0, fn.ntmps, tbl, [], tbl.length⟩ { tmps := us ++ Array.replicate (fn.ntmps - us.size) undef, defers := [] } w := by
    refine ⟨ρ, σ, ⟨by simp; omega, rfl, fun t s hs => ?_⟩, hT1, ⟨Nat.le_refl _, rfl⟩, fun i _ _ => ⟨rfl, rfl⟩⟩
    obtain ⟨_, x, hx, hrel⟩ := env0_rel hr hs
    have hx : us[t]? = some x := by simpa using hx
    have hlt : t < us.size := (Array.getElem?_eq_some_iff.1 hx).1
    have : (us ++ Array.replicate (fn.ntmps - us.size) undef).getD t undef = x := by
      have h1 : (us ++ Array.replicate (fn.ntmps - us.size) undef)[t]? = some x := by rw [Array.getElem?_append_left hlt]; exact hx
      simp [h1]
    rw [this]; exact hrel
  refine wp_mono (h _ _ _ _ _ _ h0) fun e a' w' hq => ?_
  have fin : ∀ st, SOK [] { B with n0 := tbl.length } ρ σ st a' w' → (resL P st fn.results.toList fun l => K (oneOf l).normT (normB st.tbl) st.mv) → a'.defers = [] ∧ ∃ v, (results fn a'.tmps).run P w' = .ok v w' ∧
      ∃ s u t m ρ' σ', Ending.returned v = .returned u ∧ Rel t.length ρ' σ' s u ∧ tbl.length ≤ t.length ∧ (∀ i, i < tbl.length → i ∉ m → ρ' i = ρ i ∧ σ' i = σ i) ∧ TOK ρ' σ' B t w' ∧ K s t m := by
    rintro st ⟨ρ', σ', hE, hT', hn, hag⟩ hres
    obtain ⟨l, vs, hK, hrel, hrun⟩ := resL_sound hE hT' hres
    obtain ⟨v, hv, hres⟩ := results_run hrel hrun
    have hn0 : st.n0 = tbl.length := hn.2
    rw [hn0] at hn hag
    have hl : (normB st.tbl).length = st.tbl.length := by rw [normB_eq]; simp
    have hT2 : TOK ρ' σ' B st.tbl w' := ⟨hT'.gl, hT'.fr, hT'.lies, hT'.dom, hT'.domw, hT'.inj, hT'.mok.base rfl rfl rfl⟩
    exact ⟨hE.defers, v, hres, _, v, _, _, ρ', σ', rfl, by rw [hl]; exact hv.normT, by rw [hl]; exact hn.1, hag, hT2.norm, hK⟩
  cases e with
  | normal => obtain ⟨st, h, h0⟩ := hq; exact fin st h0 h
  | ret => obtain ⟨st, h, h0⟩ := hq; exact fin st h0 h
  | exit i => obtain ⟨st, h, h0⟩ := hq; exact h.elim
  | goto l => exact hq
  | panic c => exact hq.elim
  | outgrown => exact hq.elim
/-- A function that is given memory to read alone. -/
theorem q_tr {f : FuncId} {fn : Func} {g : List SV → List Blk → (SV → Prop) → Prop} (hf : P.funcs[f]? = some fn) (hn : (fn.name == "runtime.NumGoroutine") = false) (hb : fn.body.isNone = false)
    (h : ∀ args blks K, g args blks K → ∃ s, (pvo s).isSome = true ∧ K s ∧ allRo blks = true ∧ FnOK P f args blks fun s' _ _ => s' = s) : SpecOK P f (.q g) :=
  ⟨enters_of hf hn hb, fun args blks K hg => by
    obtain ⟨s, h1, h2, h3, h4⟩ := h args blks K hg
    refine ⟨s, h1, h2, fun B ρ σ us w hr hT => ?_⟩
    have hT' : TOK ρ σ { A := (List.range blks.length).map ρ, W := [], AM := (List.range blks.length).map ρ, WM := [], w0 := w } blks w := by
      refine ⟨hT.gOK (fun x hx => absurd hx (by simp)), Fr.refl _ _, hT.lies, fun i b hi hd hs => ?_, fun i b hi hw hs => ?_, hT.inj, hT.mok.is, fun i b hi hb => ?_, fun i b hi hb => ?_, hT.mok.inj⟩
      · left
        exact List.mem_map.2 ⟨i, List.mem_range.2 (List.getElem?_eq_some_iff.1 hi).1, rfl⟩
      · rw [(allRo_get h3 hi).1] at hw; cases hw
      · left
        exact List.mem_map.2 ⟨i, List.mem_range.2 (List.getElem?_eq_some_iff.1 hi).1, rfl⟩
      · rw [(allRo_get h3 hi).2] at hb; cases hb
    refine (h4 _ ρ σ us w hr hT').mono fun e w' ⟨s', v, t, m, ρ', σ', g1, g2, g3, g4, g5, g6⟩ => ?_
    subst g6
    have hfr : Fr [] w w' := g5.fr
    obtain ⟨u, hu⟩ := Option.isSome_iff_exists.1 h1
    have hrel : Rel blks.length ρ σ s' v := by
      have e1 := (pvo_rel (n := t.length) (ρ := ρ') (σ := σ') s' u v hu).1 g2
      exact (pvo_rel s' u v hu).2 e1
    refine ⟨s', v, blks, [], ρ, σ, g1, hrel, Nat.le_refl _, fun _ _ _ => ⟨rfl, rfl⟩, ?_, rfl, rfl, rfl⟩
    refine ⟨hT.gl, hT.fr.call hfr (by simp), fun i b hi hd => ?_, fun i b hi hd hs => hT.dom i b hi hd hs, fun i b hi hd hs => hT.domw i b hi hd hs, hT.inj, hT.mok.turn fun i b hi hm => hfr.block _ (hT.mlt hi hm) (by simp)⟩
    rcases hT.lies i b hi hd with h0 | ⟨pre, hp, hl⟩
    · exact .inl h0
    · exact .inr ⟨pre, hp, hl.of_block (hfr.block _ hl.lt (by simp))⟩⟩
end

/-- On; out of a block; the function's end, with true in the slot of its result. -/
def pq (N X : St → Prop) (id : Nat) : Ex → St → Prop := fun e st => match e with
  | .norm => N st
  | .exit i => Nat.beq i id = true ∧ X st
  | .ret => look st.env 4 = some (.v (.bool true))
def nope : St → Prop := fun _ => False
section
variable {P : Program} {S : Specs} {c : Code} {st : St} {N X : St → Prop} {id : Nat}
theorem Tr.leaf {I : Nat → St → LK} (hm : P.follows .mixedOrders = true) (hS : SpecsOK P S) {F : Prop} (hF : vc P S I c st (pq N X id) = F) (h : F) : Tr P c st (pq N X id) := Tr.of_vc (I := I) hm hS (hF ▸ h)
theorem Tr.norm {N' : St → Prop} (h : Tr P c st (pq N X id)) (hN : ∀ st, N st → N' st) : Tr P c st (pq N' X id) :=
  h.mono fun e st hq => by cases e <;> first | exact hN _ hq | exact hq
theorem Tr.nx {N1 : St → Prop} (hc : isSq c = true) (h1 : Tr P (sL c) st (pq N1 X id)) (h2 : ∀ st', N1 st' → Tr P (sR c) st' (pq N X id)) : Tr P c st (pq N X id) :=
  Tr.sq (N := N1) hc (h1.mono fun e st hq => by cases e <;> exact hq) h2
theorem Tr.blk {i : Nat} (hc : isBk i c = true) (h : Tr P (bB c) st (pq N nope 0)) : Tr P c st (pq N X id) :=
  Tr.bk hc (h.mono fun e st hq => by
    cases e with
    | norm => exact hq
    | exit j => exact hq.2.elim
    | ret => exact hq)
theorem Tr.loop {Y : Type} {i : Nat} {Z : St → Prop} (n : Nat) (q : Nat → Y → Prop) (sh : Nat → Y → St) (x0 : Y) (hc : isLp i c = true) (h0 : q 0 x0) (hle : stL st (sh 0 x0))
    (hr : ∀ k, k ≤ n → ∀ x, q k x → Tr P (bB c) (sh k x) (pq (fun st' => k < n ∧ ∃ x', q (k + 1) x' ∧ stL st' (sh (k + 1) x')) Z i)) (hZ : ∀ st, Z st → N st) : Tr P c st (pq N X id) :=
  Tr.lp n q sh x0 hc h0 hle fun k hk x hx => (hr k hk x hx).mono fun e st hq => by
    cases e with
    | norm => exact hq
    | exit j =>
      have hj := Nat.eq_of_beq_eq_true hq.1
      subst hj
      show inB j (pq N X id) (.exit j) st
      unfold inB
      simp only [Nat.beq_refl]
      exact hZ _ hq.2
    | ret => exact hq
end

/-! ### A state told as itself -/
theorem look_of : ∀ {env : Env} {t : Nat} {s : SV}, nodupB (env.map Prod.fst) = true → (t, s) ∈ env → look env t = some s
  | [], t, s, _, h => by simp at h
  | (k, x) :: r, t, s, hn, h => by
    have hn' := nodupB_iff _ hn
    simp only [List.map_cons, List.nodup_cons] at hn'
    simp only [look]
    rcases List.mem_cons.1 h with h | h
    · cases h; rw [Nat.beq_refl]
    · have hne : k ≠ t := fun e => hn'.1 (List.mem_map.2 ⟨(t, s), h, e.symm⟩)
      cases hb : Nat.beq k t with
      | true => exact absurd (Nat.eq_of_beq_eq_true hb) hne
      | false =>
        have h2 : nodupB (r.map Prod.fst) = true := by
          simp only [List.map_cons, nodupB, Bool.and_eq_true] at hn
          exact hn.2
        exact look_of h2 h
theorem envLeK_of (env : Env) : ∀ (e : Env) (K : Prop), (∀ p ∈ e, look env p.1 = some p.2 ∧ p.2.okS) → K → envLeK env e K
  | [], K, _, h => h
  | (t, s) :: r, K, hp, h => by
    obtain ⟨h1, h2⟩ := hp (t, s) (by simp)
    simp only [envLeK]
    simp only at h1 h2
    rw [h1]
    exact leK_self s _ h2 (envLeK_of env r K (fun p hp' => hp p (by simp [hp'])) h)
def stOk (st : St) : Bool := (nodupB (st.env.map Prod.fst) && Nat.ble st.n0 st.tbl.length) && (subB st.mv st.mv && (envLt st.tbl.length st.env && tblLt st.tbl.length st.tbl))
def envOk : Env → Prop
  | [] => True
  | (_, s) :: r => s.okS ∧ envOk r
theorem envOk_mem : ∀ {e : Env} {p : Nat × SV}, envOk e → p ∈ e → p.2.okS
  | [], p, _, h => by simp at h
  | (t, s) :: r, p, h, hp => by
    rcases List.mem_cons.1 hp with rfl | hp
    · exact h.1
    · exact envOk_mem h.2 hp
theorem stL_self (st : St) (hb : stOk st = true) (he : envOk st.env) (ht : okST st.tbl) : stL st st := by
  unfold stOk at hb
  simp only [Bool.and_eq_true] at hb
  obtain ⟨⟨h1, h2⟩, h3, h4, h5⟩ := hb
  unfold stL stLe
  simp only [Nat.beq_refl, h2, h3, h4, h5, Bool.and_self]
  exact envLeK_of _ _ _ (fun p hp => ⟨look_of h1 hp, envOk_mem he hp⟩) (tblLeK_self _ _ ht trivial)
theorem okST_app : ∀ {l m : List Blk}, okST l → okST m → okST (l ++ m)
  | [], m, _, h => h
  | a :: l, m, h, h' => ⟨h.1, okST_app h.2 h'⟩
end Go.Proofs.YtmnenigmkfnciaaGreatDoor.Sx
