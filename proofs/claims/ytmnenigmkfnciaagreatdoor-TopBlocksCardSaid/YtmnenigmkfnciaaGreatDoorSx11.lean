/- The walk by computation: code, loops, functions. No condition. -/
import Derived.Test.YtmnenigmkfnciaaGreatDoorSxG
import Derived.LoopN
import Derived.Deep.LoopGhost
namespace Go.Proofs.YtmnenigmkfnciaaGreatDoor.Sx
open Go
variable {ds : List Deferred}

section
variable {P : Program} {S : Specs} {B : Base} {ρ0 : Nat → Nat} {σ0 : Nat → Nat × Nat}
/-- Is there a call that writes? -/
def hasM (P : Program) (S : Specs) (env : Env) : List Oper → Bool
  | [] => false
  | o :: r => match o.op with
    | .call c => match c.callee with
      | .builtin _ => hasM P S env r
      | _ => !isQ P S env o.op || hasM P S env r
    | _ => hasM P S env r
/-- Every order, as it comes. -/
def vrA (P : Program) (S : Specs) (ops : List Oper) (st : St) (K : St → Prop) : Prop :=
  match noSel ops with
  | true => match hasM P S st.env ops with
    | true => vaK P S ops ops.length (Array.replicate ops.length false) st K
    | false => va P S ops ops.length (Array.replicate ops.length false) st K
  | false => False
/-- By a plan, if there is one. -/
def vrG (P : Program) (S : Specs) (ops : List Oper) (pl : Sp) (st : St) (K : St → Prop) : Prop :=
  match fastG ops (ops.map (mkOf ops)) pl with
  | true => vg P S ops (ancs [] (ops.map (mkOf ops))) pl [] st K
  | false => vrA P S ops st K
def vr (P : Program) (S : Specs) (ops : List Oper) (draw : Bool) (st : St) (K : St → Prop) : Prop :=
  match draw with
  | false => vo P S ops ops st K
  | true => match Nat.beq (qlen P S st.env ops) ops.length with
    | true => match fastB ops (ops.map (mkOf ops)) with
      | true => vq P S st.nt st.tbl ops ops st.env fun env => K { st with env := env }
      | false => vrG P S ops (mkPlan P S ops (ops.map (mkOf ops)) ops.length 0) st K
    | false => match fastT ops (ops.map (mkOf ops)) (qlen P S st.env ops) with
      | true => vq P S st.nt st.tbl ops (ops.take (qlen P S st.env ops)) st.env fun env => vo P S ops (ops.drop (qlen P S st.env ops)) { st with env := env } K
      | false => vrG P S ops (mkPlan P S ops (ops.map (mkOf ops)) ops.length 0) st K

theorem vr_sound {id : Nat} {ops : Array Oper} {draw : Bool} {Q : Exit → Act → World → Prop} {K : St → Prop} {st : St} {a : Act} {w : World} (hm : P.follows .mixedOrders = true) (hS : SpecsOK P S) (hQ : ∀ st a w, K st → SOK ds B ρ0 σ0 st a w → Q .normal a w)
    (h0 : SOK ds B ρ0 σ0 st a w) (h : vr P S ops.toList draw st K) : (Code.region id ops draw).wp P Q a w := by
  obtain ⟨ρ, σ, hE, hT, hn, hag⟩ := h0
  cases draw with
  | false =>
    refine wp_region_list ?_
    have := vo_sound hS hQ ⟨ρ, σ, hE, hT, hn, hag⟩ h
    simpa using this
  | true =>
    have hT1 : TOK ρ σ B st.tbl { w with drawn := w.drawn + 1 } := hT.drew _
    have anyCase : vrA P S ops.toList st K → (Code.region id ops true).wp P Q a w := fun h => by
      unfold vrA at h
      split at h
      · rename_i hns
        refine wp_region_noPanic (wp_region_any hm ?_)
        have hsel : Region.noSelect ops = true := by have := noSelect_fast hns; simpa using this
        split at h
        · have := vaK_sound (Q := NoPanic Q) hS hsel (fun _ _ _ h => h) (fun st a w h h' => NoPanic.normal (hQ st a w h h')) _ _ _ _ _ ⟨ρ, σ, hE, hT1, hn, hag⟩ h
          simpa using this
        · have := va_sound (Q := NoPanic Q) hS hsel (fun _ _ _ h => h) (fun st a w h h' => NoPanic.normal (hQ st a w h h')) _ _ _ _ _ ⟨ρ, σ, hE, hT1, hn, hag⟩ h
          simpa using this
      · exact h.elim
    have planCase : ∀ pl, vrG P S ops.toList pl st K → (Code.region id ops true).wp P Q a w := fun pl h => by
      unfold vrG at h
      split at h
      · rename_i hok
        refine wp_region_noPanic (wp_region_any hm ?_)
        have := wpAny_of_plan (Q := NoPanic Q) hS hok (fun _ _ _ h => h) (fun st a w h h' => NoPanic.normal (hQ st a w h h')) ⟨ρ, σ, hE, hT1, hn, hag⟩ h
        simpa using this
      · exact anyCase h
    unfold vr at h
    simp only at h
    split at h
    · split at h
      · rename_i hB
        have hB := lexB_of_fast hB
        refine wp_region_quiet (C := Fr [] { w with drawn := w.drawn + 1 }) hm (by simpa using hB) (Fr.refl _ _) ?_
        have := vq_sound (P := P) hT1 hS hE h
        simp only [Array.toArray_toList] at this
        have mono : ∀ (l : List Oper) (a : Act), wpQuiet P ops (Fr [] { w with drawn := w.drawn + 1 }) (fun a' => ∃ env', EOK ds st.tbl.length ρ σ env' st.nt a' ∧ K { st with env := env' }) l a →
            wpQuiet P ops (Fr [] { w with drawn := w.drawn + 1 }) (fun a' => ∀ w', Fr [] { w with drawn := w.drawn + 1 } w' → Q .normal a' w') l a := by
          intro l
          induction l with
          | nil => rintro a ⟨env', hE', hK⟩ w' hw'; exact hQ _ _ _ hK ⟨ρ, σ, hE', hT1.still hw', hn, hag⟩
          | cons o l ih =>
            intro a h
            simp only [wpQuiet] at h ⊢
            split
            · rename_i hw; simp only [hw, if_true] at h; exact Oper.quiet_mono (fun a h => ih a h) h
            · rename_i hw; simp only [hw] at h; exact ih _ h
        exact mono _ _ this
      · exact planCase _ h
    · split at h
      · rename_i hB
        have hB := lexTailB_of_fast hB
        rw [show ops = ops.toList.toArray by simp]
        refine wp_region_quiet_tail (C := Fr [] { w with drawn := w.drawn + 1 }) (qlen P S st.env ops.toList) hm hB (Fr.refl _ _) ?_
        have := vq_sound (P := P) hT1 hS hE h
        have mono : ∀ (l : List Oper) (a : Act), wpQuiet P ops.toList.toArray (Fr [] { w with drawn := w.drawn + 1 }) (fun a' => ∃ env', EOK ds st.tbl.length ρ σ env' st.nt a' ∧ vo P S ops.toList (ops.toList.drop (qlen P S st.env ops.toList)) { st with env := env' } K) l a →
            wpQuiet P ops.toList.toArray (Fr [] { w with drawn := w.drawn + 1 }) (fun a' => ∀ w', Fr [] { w with drawn := w.drawn + 1 } w' → wpList P ops.toList.toArray Q (ops.toList.drop (qlen P S st.env ops.toList)) a' w') l a := by
          intro l
          induction l with
          | nil => rintro a ⟨env', hE', hK⟩ w' hw'; exact vo_sound hS hQ (st := { st with env := env' }) ⟨ρ, σ, hE', hT1.still hw', hn, hag⟩ hK
          | cons o l ih =>
            intro a h
            simp only [wpQuiet] at h ⊢
            split
            · rename_i hw; simp only [hw, if_true] at h; exact Oper.quiet_mono (fun a h => ih a h) h
            · rename_i hw; simp only [hw] at h; exact ih _ h
        exact mono _ _ this
      · exact planCase _ h
end

inductive Ex where
  | norm
  | exit (id : Nat)
  | ret

/-- How a loop is met: unrolled, so many rounds at most; or by what holds at each round's head, up to round n; or by what holds of something that is not told; or the same, what holds being found in the proof. -/
inductive LK where
  | unroll (n : Nat)
  | inv (n : Nat) (sh : Nat → St)
  | gh (X : Type) (n : Nat) (x0 : X) (q : Nat → X → Prop) (sh : Nat → X → St)
  | ge (X : Type) (n : Nat) (sh : Nat → X → St)

/-- These slots of a frame. -/
def keep (env : Env) : List Nat → Env
  | [] => []
  | t :: r => match look env t with
    | some s => (t, s) :: keep env r
    | none => keep env r
def inat (k : Nat) : SV := .v (.int .i64 (k : Int))

/-- Every loop unrolled. -/
def noI : Nat → St → LK := fun _ _ => .unroll 2000

def inB (id : Nat) (K : Ex → St → Prop) : Ex → St → Prop := fun e st => match e with
  | .norm => K .norm st
  | .exit i => match Nat.beq i id with
    | true => K .norm st
    | false => K (.exit i) st
  | .ret => K .ret st
/-- Rounds. -/
def iter (f : St → (Ex → St → Prop) → Prop) (K : Ex → St → Prop) : Nat → St → Prop
  | 0, _ => False
  | n + 1, st => f st fun e st' => match e with
    | .norm => iter f K n st'
    | .exit i => K (.exit i) st'
    | .ret => K .ret st'
def rounds (f : St → (Ex → St → Prop) → Prop) (K : Ex → St → Prop) (n : Nat) (sh : Nat → St) : Prop :=
  ∀ k, k ≤ n → f (sh k) fun e st' => match e with
    | .norm => k < n ∧ stLe st' (sh (k + 1)) True
    | .exit i => K (.exit i) st'
    | .ret => K .ret st'

def roundsG {X : Type} (f : St → (Ex → St → Prop) → Prop) (K : Ex → St → Prop) (n : Nat) (q : Nat → X → Prop) (sh : Nat → X → St) : Prop :=
  ∀ k, k ≤ n → ∀ x, q k x → f (sh k x) fun e st' => match e with
    | .norm => k < n ∧ ∃ x', q (k + 1) x' ∧ stLe st' (sh (k + 1) x') True
    | .exit i => K (.exit i) st'
    | .ret => K .ret st'

def vc (P : Program) (S : Specs) (I : Nat → St → LK) : Code → St → (Ex → St → Prop) → Prop
  | .skip, st, K => K .norm st
  | .region _ ops draw, st, K => vr P S ops.toList draw st (K .norm)
  | .seq a b, st, K => vc P S I a st fun e st' => match e with
    | .norm => vc P S I b st' K
    | .exit i => K (.exit i) st'
    | .ret => K .ret st'
  | .cond c x y, st, K => match c with
    | .tmp t => match look st.env t with
      | some (.v (.bool b)) => bc b (vc P S I x { st with env := (t, .v (.bool true)) :: st.env } K) (vc P S I y { st with env := (t, .v (.bool false)) :: st.env } K)
      | _ => False
    | .const (.bool b) => bc b (vc P S I x st K) (vc P S I y st K)
    | _ => False
  | .block id (.loop c), st, K => match I id st with
    | .unroll n => iter (vc P S I c) (inB id K) n st
    | .inv n sh => stLe st (sh 0) (rounds (vc P S I c) (inB id K) n sh)
    | .gh _ n x0 q sh => q 0 x0 ∧ stLe st (sh 0 x0) (roundsG (vc P S I c) (inB id K) n q sh)
    | .ge X n sh => ∃ (q : Nat → X → Prop) (x0 : X), q 0 x0 ∧ stLe st (sh 0 x0) (roundsG (vc P S I c) (inB id K) n q sh)
  | .block id c, st, K => vc P S I c st (inB id K)
  | .exit id, st, K => K (.exit id) st
  | .ret, st, K => K .ret st
  | _, _, _ => False

/-- What K says of the symbolic states, said of the machine's. -/
def lift (ds : List Deferred) (B : Base) (ρ0 : Nat → Nat) (σ0 : Nat → Nat × Nat) (K : Ex → St → Prop) : Exit → Act → World → Prop
  | .normal, a, w => ∃ st, K .norm st ∧ SOK ds B ρ0 σ0 st a w
  | .exit id, a, w => ∃ st, K (.exit id) st ∧ SOK ds B ρ0 σ0 st a w
  | .ret, a, w => ∃ st, K .ret st ∧ SOK ds B ρ0 σ0 st a w
  | _, _, _ => False

section
variable {P : Program} {S : Specs} {B : Base} {ρ0 : Nat → Nat} {σ0 : Nat → Nat × Nat}

theorem SOK.know {st : St} {a : Act} {w : World} (h : SOK ds B ρ0 σ0 st a w) {t : Nat} {b c : Bool} (hb : look st.env t = some (.v (.bool b))) (hc : b = c) : SOK ds B ρ0 σ0 { st with env := (t, .v (.bool c)) :: st.env } a w := by
  obtain ⟨ρ, σ, hE, hT, hn, hag⟩ := h
  subst hc
  exact ⟨ρ, σ, hE.know (hE.get t _ hb), hT, hn, hag⟩

theorem lift_inB {id : Nat} {K : Ex → St → Prop} {e : Exit} {a : Act} {w : World} (h : lift ds B ρ0 σ0 (inB id K) e a w) : Exit.inBlock id (lift ds B ρ0 σ0 K) e a w := by
  cases e with
  | normal => exact h
  | exit i =>
    obtain ⟨st, h, h0⟩ := h
    simp only [inB] at h
    simp only [Exit.inBlock]
    by_cases e : i = id
    · subst e
      simp only [if_true]
      simp at h
      exact ⟨st, h, h0⟩
    · rw [if_neg e]
      rw [beq_false e] at h
      exact ⟨st, h, h0⟩
  | ret => exact h
  | goto l => exact h
  | panic c => exact h
  | outgrown => exact h

/-- 'K', nothing said of the normal end. -/
def offN (K : Ex → St → Prop) : Ex → St → Prop := fun e st => match e with
  | .norm => False
  | .exit i => K (.exit i) st
  | .ret => K .ret st

theorem iter_sound {c : Code} {f : St → (Ex → St → Prop) → Prop} {K : Ex → St → Prop} (hf : ∀ st K a w, f st K → SOK ds B ρ0 σ0 st a w → c.wp P (lift ds B ρ0 σ0 K) a w) :
    ∀ {n : Nat} {st : St} {a : Act} {w : World}, iter f K n st → SOK ds B ρ0 σ0 st a w → Code.rounds P c (lift ds B ρ0 σ0 (offN K)) n a w
  | 0, st, a, w, h, _ => h.elim
  | n + 1, st, a, w, h, h0 => by
    rw [rounds_succ]
    refine wp_mono (hf st _ a w h h0) fun e a' w' hq => ?_
    cases e with
    | normal => obtain ⟨st', h, h0⟩ := hq; exact iter_sound hf h h0
    | exit i => exact hq
    | ret => exact hq
    | goto l => exact hq
    | panic c => exact hq
    | outgrown => exact hq

theorem rounds_sound {c : Code} {f : St → (Ex → St → Prop) → Prop} {K : Ex → St → Prop} {n : Nat} {sh : Nat → St} (hf : ∀ st K a w, f st K → SOK ds B ρ0 σ0 st a w → c.wp P (lift ds B ρ0 σ0 K) a w) {a : Act} {w : World}
    (h : rounds f K n sh) (h0 : SOK ds B ρ0 σ0 (sh 0) a w) : (Code.loop c).wp P (lift ds B ρ0 σ0 (offN K)) a w := by
  refine wp_loop_ghost (fun m a w => ∃ k, k + m = n ∧ SOK ds B ρ0 σ0 (sh k) a w) n ⟨0, by omega, h0⟩ ?_
  rintro m a w ⟨k, hk, h0⟩
  refine wp_mono (hf _ _ a w (h k (by omega)) h0) fun e a' w' hq => ?_
  cases e with
  | normal =>
    obtain ⟨st', ⟨h1, h2⟩, h0⟩ := hq
    exact ⟨n - (k + 1), by omega, k + 1, by omega, (stLe_sound h0 h2).2⟩
  | exit i => exact hq
  | ret => exact hq
  | goto l => exact hq
  | panic c => exact hq
  | outgrown => exact hq

theorem roundsG_sound {X : Type} {c : Code} {f : St → (Ex → St → Prop) → Prop} {K : Ex → St → Prop} {n : Nat} {x0 : X} {q : Nat → X → Prop} {sh : Nat → X → St} (hf : ∀ st K a w, f st K → SOK ds B ρ0 σ0 st a w → c.wp P (lift ds B ρ0 σ0 K) a w) {a : Act} {w : World}
    (h : roundsG f K n q sh) (hq : q 0 x0) (h0 : SOK ds B ρ0 σ0 (sh 0 x0) a w) : (Code.loop c).wp P (lift ds B ρ0 σ0 (offN K)) a w := by
  refine wp_loop_ghost (fun m a w => ∃ k x, k + m = n ∧ q k x ∧ SOK ds B ρ0 σ0 (sh k x) a w) n ⟨0, x0, by omega, hq, h0⟩ ?_
  rintro m a w ⟨k, x, hk, hq, h0⟩
  refine wp_mono (hf _ _ a w (h k (by omega) x hq) h0) fun e a' w' hq => ?_
  cases e with
  | normal =>
    obtain ⟨st', ⟨h1, x', h3, h2⟩, h0⟩ := hq
    exact ⟨n - (k + 1), by omega, k + 1, x', by omega, h3, (stLe_sound h0 h2).2⟩
  | exit i => exact hq
  | ret => exact hq
  | goto l => exact hq
  | panic c => exact hq
  | outgrown => exact hq

theorem lift_offN {id : Nat} {K : Ex → St → Prop} {e : Exit} {a : Act} {w : World} (h : lift ds B ρ0 σ0 (offN (inB id K)) e a w) : Exit.inBlock id (lift ds B ρ0 σ0 K) e a w := by
  refine lift_inB ?_
  cases e with
  | normal => obtain ⟨st, h, _⟩ := h; exact h.elim
  | exit i => exact h
  | ret => exact h
  | goto l => exact h
  | panic c => exact h
  | outgrown => exact h

theorem vc_sound {I : Nat → St → LK} (hm : P.follows .mixedOrders = true) (hS : SpecsOK P S) : ∀ (c : Code) (st : St) (K : Ex → St → Prop) (a : Act) (w : World), vc P S I c st K → SOK ds B ρ0 σ0 st a w → c.wp P (lift ds B ρ0 σ0 K) a w
  | .skip, st, K, a, w, h, h0 => wp_skip ⟨st, by simpa only [vc] using h, h0⟩
  | .region id ops draw, st, K, a, w, h, h0 => by
    simp only [vc] at h
    exact vr_sound hm hS (fun st a w hK h0 => ⟨st, hK, h0⟩) h0 h
  | .seq x y, st, K, a, w, h, h0 => by
    simp only [vc] at h
    refine wp_seq (wp_mono (vc_sound hm hS x st _ a w h h0) fun e a' w' hq => ?_)
    cases e with
    | normal => obtain ⟨st', h, h0⟩ := hq; exact vc_sound hm hS y st' K a' w' h h0
    | exit i => exact hq
    | ret => exact hq
    | goto l => exact hq
    | panic c => exact hq
    | outgrown => exact hq
  | .cond c x y, st, K, a, w, h, h0 => by
    simp only [vc] at h
    split at h
    · rename_i t
      split at h
      · rename_i b hb
        have hv : a.eval (.tmp t) = .bool b := by
          obtain ⟨ρ, σ, hE, _⟩ := h0
          have := hE.get t _ hb
          simp only [Rel] at this
          exact this
        rw [bc_iff] at h
        exact wp_cond_split hv (fun e => vc_sound hm hS x _ K a w (h.1 e) (h0.know hb e)) (fun e => vc_sound hm hS y _ K a w (h.2 e) (h0.know hb e))
      · exact h.elim
    · rename_i b
      rw [bc_iff] at h
      exact wp_cond_split (t := b) rfl (fun e => vc_sound hm hS x _ K a w (h.1 e) h0) (fun e => vc_sound hm hS y _ K a w (h.2 e) h0)
    · exact h.elim
  | .block id c, st, K, a, w, h, h0 => by
    by_cases hc : ∃ d, c = .loop d
    · obtain ⟨d, rfl⟩ := hc
      simp only [vc] at h
      refine wp_block ?_
      have hf : ∀ st K a w, vc P S I d st K → SOK ds B ρ0 σ0 st a w → d.wp P (lift ds B ρ0 σ0 K) a w := fun st K a w h h0 => vc_sound hm hS d st K a w h h0
      split at h
      · exact wp_mono (wp_loop_rounds _ (iter_sound hf h h0)) fun e a' w' hq => lift_offN hq
      · obtain ⟨h, h0⟩ := stLe_sound h0 h
        exact wp_mono (rounds_sound hf h h0) fun e a' w' hq => lift_offN hq
      · obtain ⟨hq, h⟩ := h
        obtain ⟨h, h0⟩ := stLe_sound h0 h
        exact wp_mono (roundsG_sound hf h hq h0) fun e a' w' hq => lift_offN hq
      · obtain ⟨q, x0, hq, h⟩ := h
        obtain ⟨h, h0⟩ := stLe_sound h0 h
        exact wp_mono (roundsG_sound hf h hq h0) fun e a' w' hq => lift_offN hq
    · have h : vc P S I c st (inB id K) := by
        cases c <;> first | exact h | exact absurd ⟨_, rfl⟩ hc
      exact wp_block (wp_mono (vc_sound hm hS c st _ a w h h0) fun e a' w' hq => lift_inB hq)
  | .exit id, st, K, a, w, h, h0 => wp_exit ⟨st, by simpa only [vc] using h, h0⟩
  | .ret, st, K, a, w, h, h0 => wp_ret ⟨st, by simpa only [vc] using h, h0⟩
  | .loop _, st, K, a, w, h, h0 => by simp only [vc] at h
  | .rangeFunc _ _ _ _, st, K, a, w, h, h0 => by simp only [vc] at h
  | .scope _, st, K, a, w, h, h0 => by simp only [vc] at h
  | .label _, st, K, a, w, h, h0 => by simp only [vc] at h
  | .goto _, st, K, a, w, h, h0 => by simp only [vc] at h
  | .refuse _, st, K, a, w, h, h0 => by simp only [vc] at h
end

/-! ### A function -/
def resS (P : Program) (st : St) : ResultVar → (SV → Prop) → Prop
  | .tmp t, K => match look st.env t with
    | some s => K s
    | none => False
  | .cell t ty, K => match look st.env t with
    | some s => loadP P st.tbl ty s K
    | none => False
def resL (P : Program) (st : St) : List ResultVar → (List SV → Prop) → Prop
  | [], K => K []
  | r :: l, K => resS P st r fun s => resL P st l fun m => K (s :: m)
def oneOf : List SV → SV
  | [s] => s
  | l => .tup l
def env0 : List SV → Nat → Env
  | [], _ => []
  | s :: l, i => (i, s) :: env0 l (i + 1)

/-- What a function's body comes to. -/
def vf (P : Program) (S : Specs) (I : Nat → St → LK) (fn : Func) (args : List SV) (tbl : List Blk) (K : SV → List Blk → List Nat → Prop) : Prop :=
  match fn.body with
  | some c => match Nat.ble args.length fn.ntmps with
    | true => vc P S I c ⟨env0 args 0, fn.ntmps, tbl, [], tbl.length⟩ fun e st => match e with
      | .exit _ => False
      | _ => resL P st fn.results.toList fun l => K (oneOf l).normT (normB st.tbl) st.mv
    | false => False
  | none => False

section
variable {P : Program} {S : Specs}

def rv (tmps : Array Value) : ResultVar → Sem Value
  | .tmp t => pure (tmps.getD t undef)
  | .cell a t => do loadVar t (← asAddr (tmps.getD a undef))

theorem resS_sound {st : St} {a : Act} {w : World} {ρ : Nat → Nat} {σ : Nat → Nat × Nat} {B : Base} (hE : EOK ds st.tbl.length ρ σ st.env st.nt a) (hT : TOK ρ σ B st.tbl w) {r : ResultVar} {K : SV → Prop} (h : resS P st r K) :
    ∃ s v, K s ∧ Rel st.tbl.length ρ σ s v ∧ (rv a.tmps r).run P w = .ok v w := by
  unfold resS at h
  split at h
  · split at h
    · rename_i s hs
      exact ⟨s, _, h, hE.get _ _ hs, rfl⟩
    · exact h.elim
  · split at h
    · rename_i t ty K p hs
      have hr := hE.get _ _ hs
      obtain ⟨s, v, ad, hp, hK, hv, hrun⟩ := loadP_sound (P := P) hT hr h
      exact ⟨s, v, hK, hv, by simp only [rv, hp, asAddr, Sem.run_bind, Sem.run_pure, Result.andThen_ok]; exact hrun w (Fr.refl _ _)⟩
    · exact h.elim

theorem resL_sound {st : St} {a : Act} {w : World} {ρ : Nat → Nat} {σ : Nat → Nat × Nat} {B : Base} (hE : EOK ds st.tbl.length ρ σ st.env st.nt a) (hT : TOK ρ σ B st.tbl w) : ∀ {rs : List ResultVar} {K : List SV → Prop}, resL P st rs K →
    ∃ l vs, K l ∧ RelL st.tbl.length ρ σ l vs ∧ (rs.mapM (rv a.tmps)).run P w = .ok vs w
  | [], K, h => ⟨[], [], h, by simp [RelL], rfl⟩
  | r :: rs, K, h => by
    simp only [resL] at h
    obtain ⟨s, v, h, hv, hrun⟩ := resS_sound hE hT h
    obtain ⟨l, vs, hK, hvs, hrun'⟩ := resL_sound hE hT h
    refine ⟨_, v :: vs, hK, by simp only [RelL]; exact ⟨v, vs, rfl, hv, hvs⟩, ?_⟩
    simp only [List.mapM_cons, Sem.run_bind, hrun, Result.andThen_ok, hrun', Sem.run_pure]

theorem results_run {fn : Func} {a : Act} {w : World} {n : Nat} {ρ : Nat → Nat} {σ : Nat → Nat × Nat} {l : List SV} {vs : List Value} (hr : RelL n ρ σ l vs)
    (h : (fn.results.toList.mapM (rv a.tmps)).run P w = .ok vs w) :
    ∃ v, Rel n ρ σ (oneOf l) v ∧ (results fn a.tmps).run P w = .ok v w := by
  have hm : (fn.results.mapM (rv a.tmps)).run P w = .ok vs.toArray w := by
    rw [← Array.toArray_toList (xs := fn.results), List.mapM_toArray, Sem.run_map, h]; rfl
  refine ⟨if h : vs.toArray.size = 1 then vs.toArray[0] else .tuple vs.toArray, ?_, ?_⟩
  · cases l with
    | nil => simp only [RelL] at hr; subst hr; simp only [oneOf, Rel]; exact ⟨#[], by simp, by simp [RelL]⟩
    | cons s l =>
      cases l with
      | nil =>
        simp only [RelL] at hr
        obtain ⟨b, m, rfl, h1, rfl⟩ := hr
        simpa [oneOf] using h1
      | cons s' l =>
        have hlen := hr.length
        simp at hlen
        have : ¬ vs.toArray.size = 1 := by simp; omega
        rw [dif_neg this]
        simp only [oneOf, Rel]
        exact ⟨_, rfl, by simpa using hr⟩
  · have e : results fn a.tmps = (do
        let vs ← fn.results.mapM (rv a.tmps)
        pure (if h : vs.size = 1 then vs[0] else .tuple vs) : Sem Value) := by
      unfold results
      congr 1
    rw [e, Sem.run_bind, hm]
    rfl

theorem env0_rel {n : Nat} {ρ : Nat → Nat} {σ : Nat → Nat × Nat} : ∀ {l : List SV} {u : List Value} {i t : Nat} {s : SV}, RelL n ρ σ l u → look (env0 l i) t = some s → i ≤ t ∧ ∃ x, u[t - i]? = some x ∧ Rel n ρ σ s x
  | [], u, i, t, s, _, h => by simp [env0, look] at h
  | a :: l, u, i, t, s, hr, h => by
    simp only [RelL] at hr
    obtain ⟨b, m, rfl, h1, h2⟩ := hr
    simp only [env0, look] at h
    split at h
    · rename_i hk
      have := Nat.eq_of_beq_eq_true hk; subst this
      simp at h; subst h
      exact ⟨Nat.le_refl _, b, by simp, h1⟩
    · obtain ⟨h3, x, h4, h5⟩ := env0_rel h2 h
      refine ⟨by omega, x, ?_, h5⟩
      rw [show t - i = (t - (i + 1)) + 1 by omega]
      simpa using h4

/-- What is told behind a call. -/
def FnPost (B : Base) (ρ : Nat → Nat) (σ : Nat → Nat × Nat) (tbl : List Blk) (K : SV → List Blk → List Nat → Prop) (e : Ending) (w' : World) : Prop :=
  ∃ s v tbl' mv ρ' σ', e = .returned v ∧ Rel tbl'.length ρ' σ' s v ∧ tbl.length ≤ tbl'.length ∧
      (∀ i, i < tbl.length → i ∉ mv → ρ' i = ρ i ∧ σ' i = σ i) ∧ TOK ρ' σ' B tbl' w' ∧ K s tbl' mv
theorem wp_of_vf {fn : Func} {args : List SV} {tbl : List Blk} {K : SV → List Blk → List Nat → Prop} {I : Nat → St → LK} (hm : P.follows .mixedOrders = true) (hS : SpecsOK P S)
    (h : vf P S I fn args tbl K) {B : Base} {ρ : Nat → Nat} {σ : Nat → Nat × Nat} {as : Array Value} {w : World} (hr : RelL tbl.length ρ σ args as.toList) (hT : TOK ρ σ B tbl w) :
    ∃ c, fn.body = some c ∧ c.wp P (bodyPost P fn (FnPost B ρ σ tbl K)) { tmps := as ++ Array.replicate (fn.ntmps - as.size) undef, defers := [] } w := by
  unfold vf at h
  split at h
  · rename_i c hb
    refine ⟨c, hb, ?_⟩
    split at h
    · rename_i hle
      have hle := Nat.le_of_ble_eq_true hle
      have hlen := hr.length
      simp at hlen
      have hT1 : TOK ρ σ { B with n0 := tbl.length } tbl w := ⟨hT.gl, hT.fr, hT.lies, hT.dom, hT.domw, hT.inj, hT.mok.base rfl rfl rfl⟩
      have h0 : SOK [] { B with n0 := tbl.length } ρ σ ⟨env0 args 0, fn.ntmps, tbl, [], tbl.length⟩ { tmps := as ++ Array.replicate (fn.ntmps - as.size) undef, defers := [] } w := by
        refine ⟨ρ, σ, ⟨by simp; omega, rfl, fun t s hs => ?_⟩, hT1, ⟨Nat.le_refl _, rfl⟩, fun i _ _ => ⟨rfl, rfl⟩⟩
        obtain ⟨_, x, hx, hrel⟩ := env0_rel hr hs
        have hx : as[t]? = some x := by simpa using hx
        have hlt : t < as.size := (Array.getElem?_eq_some_iff.1 hx).1
        have : (as ++ Array.replicate (fn.ntmps - as.size) undef).getD t undef = x := by
          have h1 : (as ++ Array.replicate (fn.ntmps - as.size) undef)[t]? = some x := by rw [Array.getElem?_append_left hlt]; exact hx
          simp [h1]
        rw [this]; exact hrel
      refine wp_mono (vc_sound hm hS c _ _ _ w h h0) fun e a' w' hq => ?_
      have fin : ∀ st, SOK [] { B with n0 := tbl.length } ρ σ st a' w' → (resL P st fn.results.toList fun l => K (oneOf l).normT (normB st.tbl) st.mv) → a'.defers = [] ∧ ∃ v, (results fn a'.tmps).run P w' = .ok v w' ∧
          ∃ s u t m ρ' σ', Ending.returned v = .returned u ∧ Rel t.length ρ' σ' s u ∧ tbl.length ≤ t.length ∧ (∀ i, i < tbl.length → i ∉ m → ρ' i = ρ i ∧ σ' i = σ i) ∧ TOK ρ' σ' B t w' ∧ K s t m := by
        rintro st ⟨ρ', σ', hE, hT', hn, hag⟩ hres
        obtain ⟨l, vs, hK, hrel, hrun⟩ := resL_sound hE hT' hres
        obtain ⟨v, hv, hres⟩ := results_run hrel hrun
        have hn0 : st.n0 = tbl.length := hn.2
        rw [hn0] at hn hag
        have hl : (normB st.tbl).length = st.tbl.length := by rw [normB_eq]; simp
        have hT2 : TOK ρ' σ' B st.tbl w' := ⟨hT'.gl, hT'.fr, hT'.lies, hT'.dom, hT'.domw, hT'.inj, hT'.mok.base rfl rfl rfl⟩
        exact ⟨hE.defers, v, hres, _, v, _, _, ρ', σ', rfl, by rw [hl]; exact hv.normT, by rw [hl]; exact hn.1, hag, hT2.norm, hK⟩
      cases e with
      | normal => obtain ⟨st, h, h0⟩ := hq; exact fin st h0 h
      | ret => obtain ⟨st, h, h0⟩ := hq; exact fin st h0 h
      | exit i => obtain ⟨st, h, h0⟩ := hq; exact h.elim
      | goto l => exact hq
      | panic c => exact hq.elim
      | outgrown => exact hq.elim
    · exact h.elim
  · exact h.elim
theorem FnOK.of_vf {f : FuncId} {fn : Func} {args : List SV} {tbl : List Blk} {K : SV → List Blk → List Nat → Prop} {I : Nat → St → LK} (hm : P.follows .mixedOrders = true) (hS : SpecsOK P S) (hf : P.funcs[f]? = some fn)
    (h : vf P S I fn args tbl K) : FnOK P f args tbl K := by
  intro B ρ σ as w hr hT
  obtain ⟨c, hb, h⟩ := wp_of_vf hm hS h hr hT
  exact calls_of_wp hf hb h
end

mutual
theorem pvo_lt (n : Nat) : ∀ (s : SV) (v : Value), pvo s = some v → s.lt n = true
  | .v _, _, _ => rfl
  | .ia _ _, _, _ => rfl
  | .agg l, v, h => by
    simp only [pvo] at h
    split at h
    · rename_i r hr; simp only [SV.lt]; exact pvoL_lt n l r hr
    · cases h
  | .tup l, v, h => by
    simp only [pvo] at h
    split at h
    · rename_i r hr; simp only [SV.lt]; exact pvoL_lt n l r hr
    · cases h
  | .ptr _ _, _, h => by simp [pvo] at h
  | .slc _ _ _ _ _, _, h => by simp [pvo] at h
  | .fn _ _ _, _, h => by simp [pvo] at h
  | .mp _, _, h => by simp [pvo] at h
  | .ifc _ _, _, h => by simp [pvo] at h
  | .pix _ _ _ _ _, _, h => by simp [pvo] at h
  | .unk, _, _ => rfl
theorem pvoL_lt (n : Nat) : ∀ (s : List SV) (v : List Value), pvoL s = some v → SV.ltL n s = true
  | [], _, _ => rfl
  | a :: l, v, h => by
    simp only [pvoL] at h
    split at h
    · rename_i y r hy hr
      simp only [SV.ltL, Bool.and_eq_true]
      exact ⟨pvo_lt n a y hy, pvoL_lt n l r hr⟩
    · cases h
end
/-! ### What a call leaves beside -/
theorem Blk.cut {n n' : Nat} {ρ : Nat → Nat} {σ : Nat → Nat × Nat} {b : Blk} {u : List Value} (hl : b.lt n' = true) (h : Pre n ρ σ b u) : Pre n' ρ σ b u := by
  cases b with
  | dead => exact h.elim
  | cells w l => exact RelL.cut (fun i _ => ⟨rfl, rfl⟩) l u hl h
  | ints w k l => exact h
  | tab w m cols => exact h
  | map w pl ks g => exact h.elim
theorem MapB.cut {n n' : Nat} {ρ : Nat → Nat} {σ : Nat → Nat × Nat} {b : Blk} {o : Obj} (hl : b.lt n' = true) (h : MapB n ρ σ b o) : MapB n' ρ σ b o := by
  cases b with
  | map w pl ks g =>
    obtain ⟨es, clock, h1, h2, h3, h4, h5, h6, h7⟩ := h
    refine ⟨es, clock, h1, h2, h3, fun e he => ?_, h5, h6, h7⟩
    have hk : e.key ∈ ks.vals := h2.mem (List.mem_map_of_mem he)
    cases pl with
    | true => exact Rel.plain (h7 rfl _ hk) (h4 e he)
    | false =>
      simp only [Blk.lt, Bool.not_eq_true'] at hl
      refine Rel.cut (fun i _ => ⟨rfl, rfl⟩) _ _ ?_ (h4 e he)
      cases hc : (g e.key).lt n' with
      | true => rfl
      | false =>
        have := anyK_iff (p := fun k => !(g k).lt n').2 ⟨e.key, hk, by simp [hc]⟩
        rw [hl] at this; cases this
  | _ => exact h.elim
theorem TOK.trim {ρ : Nat → Nat} {σ : Nat → Nat × Nat} {B : Base} {t : List Blk} {w : World} (h : TOK ρ σ B t w) (n : Nat) (hl : tblLt n (t.take n) = true) (hn : n ≤ t.length) : TOK ρ σ B (t.take n) w := by
  have old : ∀ i b, (t.take n)[i]? = some b → t[i]? = some b := fun i b hi => by
    rw [List.getElem?_take] at hi
    split at hi
    · exact hi
    · cases hi
  refine ⟨h.gl, h.fr, fun i b hi hd => ?_, fun i b hi => h.dom i b (old i b hi), fun i b hi => h.domw i b (old i b hi), fun i j b c hi hj => h.inj i j b c (old i b hi) (old j c hj), ?_⟩
  rotate_left 1
  · exact h.mok.via id (fun i b hi hm => ⟨b, old i b hi, hm, rfl, rfl, fun o ho => ho.cut (by rw [List.length_take, Nat.min_eq_left hn]; exact tblLt_get hl hi), fun h => h, fun h => h, fun _ h => h⟩) (fun _ _ _ _ _ _ _ _ h => h)
  rcases h.lies i b (old i b hi) hd with h0 | ⟨pre, hp, hl'⟩
  · exact .inl h0
  · exact .inr ⟨pre, Blk.cut (by rw [List.length_take, Nat.min_eq_left hn]; exact tblLt_get hl hi) hp, hl'⟩
/-- Only the first n blocks behind a call are told. -/
theorem FnOK.trim {P : Program} {f : FuncId} {args : List SV} {tbl : List Blk} {K : SV → List Blk → List Nat → Prop} (n : Nat)
    (h : FnOK P f args tbl fun s t m => (s.lt n && tblLt n (t.take n) && Nat.ble tbl.length n && Nat.ble n t.length) = true ∧ K s (t.take n) m) : FnOK P f args tbl K :=
  fun B ρ σ as w hr hT => (h B ρ σ as w hr hT).mono fun e w' ⟨s, v, t, m, ρ', σ', h1, h2, h3, h4, h5, h6, h7⟩ => by
    simp only [Bool.and_eq_true] at h6
    obtain ⟨⟨⟨h8, h9⟩, h10⟩, h11⟩ := h6
    have h10 := Nat.le_of_ble_eq_true h10
    have h11 := Nat.le_of_ble_eq_true h11
    have hlen : (t.take n).length = n := by rw [List.length_take, Nat.min_eq_left h11]
    exact ⟨s, v, _, m, ρ', σ', h1, by rw [hlen]; exact Rel.cut (fun i _ => ⟨rfl, rfl⟩) s v h8 h2, by rw [hlen]; exact h10, h4, h5.trim n h9 h11, h7⟩

theorem enters_of {P : Program} {f : FuncId} {fn : Func} (hf : P.funcs[f]? = some fn) (hn : (fn.name == "runtime.NumGoroutine") = false) (hb : fn.body.isNone = false) : Enters P f := by
  intro args w
  unfold callFunc
  simp only [Sem.run_bind, run_program, Result.andThen_ok, hf, hn, hb, Bool.false_eq_true, if_false, Sem.run_pure]

/-- A function that gives a value and leaves what it is given: out of what its body comes to. -/
theorem q_of {P : Program} {f : FuncId} {fn : Func} {S : Specs} {g : List SV → List Blk → (SV → Prop) → Prop} (hm : P.follows .mixedOrders = true) (hS : SpecsOK P S) (hf : P.funcs[f]? = some fn) (hn : (fn.name == "runtime.NumGoroutine") = false) (hb : fn.body.isNone = false)
    (h : ∀ args blks K, g args blks K → ∃ s, (pvo s).isSome = true ∧ K s ∧ tblLt blks.length blks = true ∧ ∃ I, vf P S I fn args blks fun s' t m => s' = s ∧ (Nat.ble blks.length t.length = true ∧ t.take blks.length = blks) ∧ m = []) : SpecOK P f (.q g) :=
  ⟨enters_of hf hn hb, fun args blks K hg => by
    obtain ⟨s, h1, h2, h3, I, h4⟩ := h args blks K hg
    refine ⟨s, h1, h2, FnOK.trim blks.length ((FnOK.of_vf hm hS hf h4).mono fun s' t m ⟨e1, ⟨e2, e3⟩, e4⟩ => ?_)⟩
    subst e1
    have hpf : s'.lt blks.length = true := by
      obtain ⟨v, hv⟩ := Option.isSome_iff_exists.1 h1
      exact pvo_lt _ _ v hv
    rw [e3]
    exact ⟨by simp [hpf, h3, Nat.le_of_ble_eq_true e2], rfl, rfl, e4⟩⟩

/-- A function that does more. -/
theorem m_of {P : Program} {f : FuncId} {fn : Func} {S : Specs} {g : List SV → List Blk → (SV → List Blk → List Nat → Prop) → Prop} (hm : P.follows .mixedOrders = true) (hS : SpecsOK P S) (hf : P.funcs[f]? = some fn) (hn : (fn.name == "runtime.NumGoroutine") = false) (hb : fn.body.isNone = false)
    (h : ∀ args blks K, g args blks K → ∃ I n, vf P S I fn args blks fun s t m => (s.lt n && tblLt n (t.take n) && Nat.ble blks.length n && Nat.ble n t.length) = true ∧ K s (t.take n) m) : SpecOK P f (.m g) :=
  ⟨enters_of hf hn hb, fun args blks K hg => by
    obtain ⟨I, n, h1⟩ := h args blks K hg
    exact FnOK.trim n (FnOK.of_vf hm hS hf h1)⟩

/-- The first so many are themselves. -/
def headB : Nat → List Nat → Nat → Bool
  | 0, _, _ => true
  | n + 1, j :: r, i => Nat.beq j i && headB n r (i + 1)
  | _ + 1, [], _ => false
theorem headB_spec : ∀ {n : Nat} {js : List Nat} {i : Nat}, headB n js i = true → n ≤ js.length ∧ ∀ k, k < n → js.getD k 0 = i + k
  | 0, js, i, _ => ⟨Nat.zero_le _, fun k hk => absurd hk (by omega)⟩
  | n + 1, j :: r, i, h => by
    simp only [headB, Bool.and_eq_true] at h
    obtain ⟨h1, h2⟩ := headB_spec h.2
    have e := Nat.eq_of_beq_eq_true h.1
    refine ⟨by simp; omega, fun k hk => ?_⟩
    cases k with
    | zero => simpa using e
    | succ k => have := h2 k (by omega); simp only [List.getD_cons_succ]; omega
theorem TOK.keep {ρ : Nat → Nat} {σ : Nat → Nat × Nat} {B : Base} {tbl : List Blk} {w : World} (h : TOK ρ σ B tbl w) {args : List SV} {js : List Nat} {bs : List Blk} (hj : okJs tbl args js = true) (hb : pick tbl (pos js) js = some bs) :
    TOK (fun p => ρ (js.getD p 0)) (fun p => σ (js.getD p 0)) B bs w := by
  simp only [okJs, Bool.and_eq_true] at hj
  obtain ⟨⟨hnd, hwa⟩, hpk⟩ := hj
  have hnd := nodupB_iff _ hnd
  obtain ⟨hlen, hget⟩ := pick_get hb
  have look : ∀ p c, bs[p]? = some c → ∃ j b, js[p]? = some j ∧ js.getD p 0 = j ∧ tbl[j]? = some b ∧ c = b.ren (pos js) ∧ b.within js = true := fun p c hp => by
    have hpl : p < js.length := by rw [← hlen]; exact (List.getElem?_eq_some_iff.1 hp).1
    have hj : js[p]? = some js[p] := by simp [hpl]
    obtain ⟨b, h1, h2⟩ := hget p _ hj
    obtain ⟨b', h3, h4⟩ := pickOk_get hpk js[p] (List.getElem_mem hpl)
    rw [h1] at h3; cases h3
    rw [h2] at hp
    exact ⟨js[p], b, hj, by simp [List.getD, hpl], h1, (Option.some.inj hp).symm, h4⟩
  refine ⟨h.gl, h.fr, fun p c hp hd => ?_, fun p c hp hd hs => ?_, fun p c hp hd hs => ?_, fun p q c d hp hq hc hd hx hsp hsq he => ?_, ?_⟩
  rotate_left 4
  · refine h.mok.via (fun p => js.getD p 0) (fun p c hp hm => ?_) (fun p q c d hp hq hc hd he => ?_)
    · obtain ⟨j, b, hj, hjD, hb1, rfl, hwi⟩ := look p c hp
      have hbm : b.isMap = true := by simpa using hm
      simp only [hjD]
      refine ⟨b, hb1, hbm, trivial, trivial, fun o ho => ho.ren (fun i hi hr => ?_) (fun s hs u hu => Rel.plain hs hu), by simp, fun h => h, fun _ h => h⟩
      have him := Blk.within_refs hwi hr
      have := pos_get js i him
      refine ⟨by rw [hlen]; exact (List.getElem?_eq_some_iff.1 this).1, ?_, ?_⟩ <;> simp [List.getD, this]
    · obtain ⟨j, b, hj, hjD, _⟩ := look p c hp
      obtain ⟨j', b', hj', hjD', _⟩ := look q d hq
      simp only [hjD, hjD'] at he
      subst he
      exact (List.getElem?_inj (by exact (List.getElem?_eq_some_iff.1 hj).1) hnd).1 (by rw [hj, hj'])
  · obtain ⟨j, b, hj, hjD, hb1, rfl, hwi⟩ := look p c hp
    simp only [hjD]
    rcases h.lies j b hb1 (by simpa using hd) with ⟨h0, h1⟩ | ⟨pre, hp', hl⟩
    · exact .inl ⟨h0, by simpa using h1⟩
    · refine .inr ⟨pre, hp'.ren (fun i hi hr => ?_), hl⟩
      have him := Blk.within_refs hwi hr
      have := pos_get js i him
      refine ⟨by rw [hlen]; exact (List.getElem?_eq_some_iff.1 this).1, ?_, ?_⟩ <;> simp [List.getD, this]
  · obtain ⟨j, b, hj, hjD, hb1, rfl, hwi⟩ := look p c hp
    simp only [hjD] at hs ⊢
    exact h.dom j b hb1 (by simpa using hd) hs
  · obtain ⟨j, b, hj, hjD, hb1, rfl, hwi⟩ := look p c hp
    simp only [hjD] at hs ⊢
    exact h.domw j b hb1 (by simpa using hd) hs
  · obtain ⟨j, b, hj, hjD, hb1, rfl, hwi⟩ := look p c hp
    obtain ⟨j', b', hj', hjD', hb1', rfl, hwi'⟩ := look q d hq
    simp only [hjD, hjD'] at hsp hsq he
    have := h.inj j j' b b' hb1 hb1' (by simpa using hc) (by simpa using hd) (by simpa using hx) hsp hsq he
    subst this
    exact (List.getElem?_inj (by exact (List.getElem?_eq_some_iff.1 hj).1) hnd).1 (by rw [hj, hj'])
/-- Of the blocks behind a call just some are kept, the first as they were. -/
theorem FnOK.keep {P : Program} {f : FuncId} {args : List SV} {tbl : List Blk} {K : SV → List Blk → List Nat → Prop} (js : List Nat)
    (h : FnOK P f args tbl fun s t m => (headB tbl.length js 0 && okJs t [s] js) = true ∧ ∃ bs, pick t (pos js) js = some bs ∧ K (s.ren (pos js)) bs m) : FnOK P f args tbl K :=
  fun B ρ σ as w hr hT => (h B ρ σ as w hr hT).mono fun e w' ⟨s, v, t, m, ρ', σ', h1, h2, h3, h4, h5, h6, bs, h7, h8⟩ => by
    rw [Bool.and_eq_true] at h6
    obtain ⟨h9, h10⟩ := h6
    obtain ⟨h11, h12⟩ := headB_spec h9
    have hrel := RelL.callee (u := [v]) h10 h7 ⟨v, [], rfl, h2, rfl⟩
    obtain ⟨b, l, e1, hrel, e2⟩ := hrel
    cases e1
    refine ⟨_, v, bs, m, _, _, h1, hrel, by rw [(pick_get h7).1]; exact h11, fun i hi hm => ?_, h5.keep h10 h7, h8⟩
    have := h12 i hi
    rw [Nat.zero_add] at this
    simp only [this]
    exact h4 i hi hm
theorem m_keep {P : Program} {f : FuncId} {fn : Func} {S : Specs} {g : List SV → List Blk → (SV → List Blk → List Nat → Prop) → Prop} (hm : P.follows .mixedOrders = true) (hS : SpecsOK P S) (hf : P.funcs[f]? = some fn) (hn : (fn.name == "runtime.NumGoroutine") = false) (hb : fn.body.isNone = false)
    (h : ∀ args blks K, g args blks K → ∃ I js, vf P S I fn args blks fun s t m => (headB blks.length js 0 && okJs t [s] js) = true ∧ ∃ bs, pick t (pos js) js = some bs ∧ K (s.ren (pos js)) bs m) : SpecOK P f (.m g) :=
  ⟨enters_of hf hn hb, fun args blks K hg => by
    obtain ⟨I, js, h1⟩ := h args blks K hg
    exact FnOK.keep js (FnOK.of_vf hm hS hf h1)⟩

end Go.Proofs.YtmnenigmkfnciaaGreatDoor.Sx
