/- The walk by computation: regions, code, loops, functions. No condition. -/
import Derived.Test.YtmnenigmkfnciaaGreatDoorSx8b
import Derived.Test.YtmnenigmkfnciaaGreatDoorSx7b
import Derived.Deep.RegionHeld3
namespace Go.Proofs.YtmnenigmkfnciaaGreatDoor.Sx
open Go
variable {ds : List Deferred}

/-- The state of the frame and of the world. -/
def SOK (ds : List Deferred) (B : Base) (ρ0 : Nat → Nat) (σ0 : Nat → Nat × Nat) (st : St) (a : Act) (w : World) : Prop :=
  ∃ ρ σ, EOK ds st.tbl.length ρ σ st.env st.nt a ∧ TOK ρ σ B st.tbl w ∧ (st.n0 ≤ st.tbl.length ∧ st.n0 = B.n0) ∧ ∀ i, i < st.n0 → i ∉ st.mv → ρ i = ρ0 i ∧ σ i = σ0 i

def putE (nt : Nat) (dst : Option Nat) (s : SV) (env : Env) (K : Env → Prop) : Prop :=
  match dst with
  | none => K env
  | some d => match Nat.ble (d + 1) nt with
    | true => K ((d, s) :: env)
    | false => False
theorem putE_sound {n : Nat} {ρ : Nat → Nat} {σ : Nat → Nat × Nat} {env : Env} {nt : Nat} {a : Act} {dst : Option Nat} {s : SV} {v : Value} {K : Env → Prop} (hE : EOK ds n ρ σ env nt a) (hs : Rel n ρ σ s v) (h : putE nt dst s env K) :
    ∃ env', K env' ∧ EOK ds n ρ σ env' nt (a.put dst v) := by
  unfold putE at h
  split at h
  · exact ⟨_, h, hE⟩
  · rename_i d
    split at h
    · rename_i hd
      exact ⟨_, h, hE.put (Nat.le_of_ble_eq_true hd) hs⟩
    · exact h.elim

/-- A guard. -/
def gd (ops : List Oper) (env : Env) (g : Option (Nat × Bool)) (yes no : Env → Prop) : Prop :=
  match g with
  | none => yes env
  | some (j, want) => match nth ops j with
    | some oj => match oj.dst with
      | some d => match look env d with
        | some (.v (.bool b)) => match want with
          | true => bc b (yes ((d, .v (.bool true)) :: env)) (no ((d, .v (.bool false)) :: env))
          | false => bc b (no ((d, .v (.bool true)) :: env)) (yes ((d, .v (.bool false)) :: env))
        | some (.v (.tuple _)) => no env
        | _ => False
      | none => False
    | none => False

theorem EOK.know {n : Nat} {ρ : Nat → Nat} {σ : Nat → Nat × Nat} {env : Env} {nt : Nat} {a : Act} (hE : EOK ds n ρ σ env nt a) {d : Nat} {s : SV} (hs : Rel n ρ σ s (a.tmps.getD d undef)) : EOK ds n ρ σ ((d, s) :: env) nt a :=
  ⟨hE.size, hE.defers, fun t s' ht => by
    simp only [look] at ht
    split at ht
    · rename_i hd
      have := Nat.eq_of_beq_eq_true hd; subst this
      simp at ht; subst ht; exact hs
    · exact hE.get t s' ht⟩

theorem gd_sound {n : Nat} {ρ : Nat → Nat} {σ : Nat → Nat × Nat} {env : Env} {nt : Nat} {a : Act} {ops : List Oper} {o : Oper} {yes no : Env → Prop} (hE : EOK ds n ρ σ env nt a) (h : gd ops env o.guard yes no) :
    ∃ env', EOK ds n ρ σ env' nt a ∧ ((Region.wanted o (yielded ops.toArray a.tmps) = true ∧ yes env') ∨ (Region.wanted o (yielded ops.toArray a.tmps) = false ∧ no env')) := by
  unfold gd at h
  split at h
  · rename_i hg
    exact ⟨env, hE, .inl ⟨by simp [Region.wanted, hg], h⟩⟩
  · rename_i j want hg
    split at h
    · rename_i oj hoj
      rw [nth_eq] at hoj
      split at h
      · rename_i d hd
        split at h
        · rename_i b hb
          have hv := hE.get d _ hb
          simp only [Rel] at hv
          have hin : d < a.tmps.size := by
            rcases Nat.lt_or_ge d a.tmps.size with h' | h'
            · exact h'
            · simp [Array.getD, Nat.not_lt.2 h', undef] at hv
          have hget : a.tmps[d]? = some (.bool b) := by
            simp [Array.getD, hin] at hv
            simp [hin, hv]
          have hy : yielded ops.toArray a.tmps j = some b := by
            simp [yielded, hoj, hd, hget]
          have hwant : Region.wanted o (yielded ops.toArray a.tmps) = (b == want) := by
            simp [Region.wanted, hg, hy]
          have hk : ∀ c, b = c → EOK ds n ρ σ ((d, .v (.bool c)) :: env) nt a := fun c hc => hE.know (by simp only [Rel]; rw [hv, hc])
          cases want <;> cases b <;> simp only [bc] at h
          · exact ⟨_, hk false rfl, .inl ⟨by rw [hwant]; rfl, h⟩⟩
          · exact ⟨_, hk true rfl, .inr ⟨by rw [hwant]; rfl, h⟩⟩
          · exact ⟨_, hk false rfl, .inr ⟨by rw [hwant]; rfl, h⟩⟩
          · exact ⟨_, hk true rfl, .inl ⟨by rw [hwant]; rfl, h⟩⟩
        · rename_i vs hb
          have hv := hE.get d _ hb
          simp only [Rel] at hv
          have hy : yielded ops.toArray a.tmps j = none := by
            unfold yielded
            simp [hoj, hd]
            cases hg : a.tmps[d]? with
            | none => rfl
            | some x =>
              have : x = .tuple vs := by simpa [Array.getD, hg, Array.getElem?_eq_some_iff] using (by
                have hin := (Array.getElem?_eq_some_iff.1 hg).1
                simp [Array.getD, hin] at hv
                rw [Array.getElem?_eq_getElem hin] at hg
                rw [← Option.some.inj hg]; exact hv : x = Value.tuple vs)
              subst this; rfl
          exact ⟨env, hE, .inr ⟨by simp [Region.wanted, hg, hy], h⟩⟩
        · exact h.elim
      · exact h.elim
    · exact h.elim

/-- Quiet operations, one behind the other. -/
def vq (P : Program) (S : Specs) (nt : Nat) (tbl : List Blk) (ops : List Oper) : List Oper → Env → (Env → Prop) → Prop
  | [], env, K => K env
  | o :: r, env, K => gd ops env o.guard
      (fun env => qop P S env tbl o.op fun s => putE nt o.dst s env fun env => vq P S nt tbl ops r env K)
      (fun env => putE nt o.dst (.v undef) env fun env => vq P S nt tbl ops r env K)

theorem vq_sound {P : Program} {S : Specs} {ρ : Nat → Nat} {σ : Nat → Nat × Nat} {B : Base} {tbl : List Blk} {w1 : World} {nt : Nat} {ops : List Oper} (hT : TOK ρ σ B tbl w1) (hS : SpecsOK P S) :
    ∀ {l : List Oper} {env : Env} {a : Act} {K : Env → Prop}, EOK ds tbl.length ρ σ env nt a → vq P S nt tbl ops l env K → wpQuiet P ops.toArray (Fr [] w1) (fun a' => ∃ env', EOK ds tbl.length ρ σ env' nt a' ∧ K env') l a
  | [], env, a, K, hE, h => ⟨env, hE, h⟩
  | o :: r, env, a, K, hE, h => by
    simp only [vq] at h
    obtain ⟨env1, hE1, ⟨hw, h⟩ | ⟨hw, h⟩⟩ := gd_sound hE h
    · simp only [wpQuiet, hw, if_true]
      obtain ⟨s, v, h, hv, hy⟩ := qop_sound (P := P) hE1 hT hS h
      obtain ⟨env2, h, hE2⟩ := putE_sound hE1 hv h
      exact ⟨v, hy, vq_sound hT hS hE2 h⟩
    · simp only [wpQuiet, hw]
      obtain ⟨env2, h, hE2⟩ := putE_sound hE1 (s := .v undef) (v := undef) (by simp [Rel]) h
      exact vq_sound hT hS hE2 h

/-- Does the operation only look? -/
def isQ (P : Program) (S : Specs) (env : Env) : Op → Bool
  | .alloc _ | .box _ _ | .store _ _ _ | .makeSlice _ _ _ | .buildSlice _ _ _ | .makeMap _ _ | .mapUpdate _ _ _ _ => false
  | .convert src dst _ => match P.underlying src, P.underlying dst with
    | some .string, some (.slice _) => false
    | _, _ => true
  | .call c => match c.callee with
    | .builtin .append | .builtin .copy | .builtin .clear | .builtin .delete => false
    | .value x => match evo env x with
      | some (.fn (.func f) _ _) => match specOf S f with
        | some (.m _) => false
        | some .o => false
        | _ => true
      | some _ => true
      | none => false
    | .invoke x name => match evo env x with
      | some (.ifc t _) => match invT P t name with
        | some f => match specOf S f with
          | some (.m _) => false
          | _ => true
        | none => true
      | some _ => true
      | none => false
    | _ => true
  | _ => true

def callM (P : Program) (S : Specs) (st : St) (c : Call) (K : SV → St → Prop) : Prop :=
  calleeS P st.env c fun f l => match specOf S f with
    | some (.m g) => match okJs st.tbl l (seen st.tbl l), pick st.tbl (pos (seen st.tbl l)) (seen st.tbl l) with
      | true, some bs => g (normL (SV.renL (pos (seen st.tbl l)) l)) (normB bs) fun s tc mv =>
          K (s.ren (back (seen st.tbl l) st.tbl.length))
            { st with env := purgeEnv (mv.map (back (seen st.tbl l) st.tbl.length)) st.env, tbl := merge (seen st.tbl l) st.tbl.length tc (mv.map (back (seen st.tbl l) st.tbl.length)) 0 st.tbl,
                      mv := st.mv ++ mv.map (back (seen st.tbl l) st.tbl.length) }
      | _, _ => False
    | some .o => match l with
      | [.slc i _ _ _ (_ + 1), .slc j _ _ _ (_ + 1)] => match nth st.tbl i, nth st.tbl j with
        | some b, some b' => match b.isDead || b'.isDead with
          | false => K (.v (.bool false)) st ∧ K (.v (.bool true)) st
          | true => False
        | _, _ => False
      | _ => False
    | _ => False

/-- An operation that does more than look. -/
def mop (P : Program) (S : Specs) (st : St) (o : Op) (K : SV → St → Prop) : Prop :=
  match o with
  | .call c => match c.callee with
    | .builtin b => builtinM P st c b K
    | _ => callM P S st c K
  | o => eop P st o fun s tbl => K s { st with tbl := tbl }

/-- The frame and the world behind it. -/
def MopPost (ds : List Deferred) (B : Base) (ρ0 : Nat → Nat) (σ0 : Nat → Nat × Nat) (a : Act) (o : Oper) (K : SV → St → Prop) (a' : Act) (w' : World) : Prop :=
  ∃ s st' v ρ σ, K s st' ∧ a' = a.put o.dst v ∧ EOK ds st'.tbl.length ρ σ st'.env st'.nt a ∧ Rel st'.tbl.length ρ σ s v ∧ TOK ρ σ B st'.tbl w' ∧ (st'.n0 ≤ st'.tbl.length ∧ st'.n0 = B.n0) ∧ ∀ i, i < st'.n0 → i ∉ st'.mv → ρ i = ρ0 i ∧ σ i = σ0 i

section
variable {P : Program} {S : Specs} {B : Base} {ρ0 : Nat → Nat} {σ0 : Nat → Nat × Nat}

theorem callM_sound {st : St} {a : Act} {o : Oper} {c : Call} {K : SV → St → Prop} {Q : Exit → Act → World → Prop} {w : World} (hS : SpecsOK P S) (ho : o.op = .call c) (h0 : SOK ds B ρ0 σ0 st a w) (h : callM P S st c K) :
    o.wp P a w (MopPost ds B ρ0 σ0 a o K) Q := by
  obtain ⟨ρ, σ, hE, hT, hn, hag⟩ := h0
  unfold callM at h
  obtain ⟨f, l, as, h, hr, hx⟩ := calleeS_sound (P := P) hE ho h
  split at h
  · rename_i g hg
    generalize seen st.tbl l = js at h
    split at h
    · rename_i bs hj hb
      obtain ⟨hent, hspec⟩ := hS f _ hg
      have hf := FnOK.frame (hspec _ _ _ h).normed hj hb hT hr
      unfold Oper.wp
      rw [hx, hent as w]
      refine hf.mono ?_
      rintro e w' ⟨s, v, tc, mv, ρ', σ', rfl, hK, hrel, hle, hag', hT'⟩
      refine ⟨_, _, v, ρ', σ', hK, rfl, hE.purge hle hag', hrel, hT', ⟨Nat.le_trans hn.1 hle, hn.2⟩, fun i hi hm => ?_⟩
      have hm' : i ∉ st.mv ∧ i ∉ mv.map (back js st.tbl.length) := by
        constructor
        · exact fun hx => hm (List.mem_append.2 (.inl hx))
        · exact fun hx => hm (List.mem_append.2 (.inr hx))
      have h1 := hag' i (by have : i < st.n0 := hi; omega) hm'.2
      have h2 := hag i hi hm'.1
      exact ⟨h1.1.trans h2.1, h1.2.trans h2.2⟩
    · exact h.elim
  · rename_i hg
    split at h
    · rename_i i oi ni ci si j oj nj cj sj
      split at h
      · rename_i b b' hb hb'
        split at h
        · rename_i hd
          rw [Bool.or_eq_false_iff] at hd
          rw [nth_eq] at hb hb'
          have hspec := hS f _ hg
          simp only [RelL] at hr
          obtain ⟨u, _, h1, hu, u', _, rfl, hu', rfl⟩ := hr
          have has : as = #[u, u'] := by apply Array.ext'; simpa using h1
          subst has
          have one : ∀ (k ok nk ck sk : Nat) (bk : Blk) (uk : Value), st.tbl[k]? = some bk → bk.isDead = false → Rel st.tbl.length ρ σ (.slc k ok nk ck (sk + 1)) uk → ∃ x c0, uk = .slice x nk c0 ∧ ∀ y, x = some y → 0 < nk → (∃ cs T fr, w.heap[y.block]? = some (.cells cs T fr)) ∧ w.frozen? y = false := fun k ok nk ck sk bk uk hk hdk hr => by
            simp only [Rel] at hr
            obtain ⟨_, hnc, hr⟩ := hr
            rcases hr with ⟨rfl, rfl, _⟩ | ⟨o1, c1, rfl, hcp, ho, hroom⟩
            · exact ⟨none, 0, rfl, fun y hy => by cases hy⟩
            · refine ⟨_, c1, rfl, fun y hy hn => ?_⟩
              cases hy
              have hpos : o1 < (σ k).1 := by
                have : 1 ≤ c1 := by omega
                have : c1 * 1 ≤ c1 * (sk + 1) := Nat.mul_le_mul_left _ (by omega)
                omega
              rcases hT.lies k bk hk hdk with ⟨h0, _⟩ | ⟨pre, _, hl⟩
              · omega
              · refine ⟨?_, hl.frozen hpos⟩
                obtain ⟨cs, T, fr, _, _, h, _⟩ := hl
                exact ⟨cs, T, fr, h⟩
          obtain ⟨x, c0, rfl, hx1⟩ := one i oi ni ci si b u hb hd.1 hu
          obtain ⟨x', c0', rfl, hx1'⟩ := one j oj nj cj sj b' u' hb' hd.2 hu'
          obtain ⟨r, d, hrun⟩ := hspec x x' ni c0 nj c0' w hx1 hx1'
          unfold Oper.wp
          rw [hx, hrun]
          refine ⟨.v (.bool r), st, .bool r, ρ, σ, ?_, rfl, hE, by simp [Rel], hT.drew d, hn, hag⟩
          cases r with
          | true => exact h.2
          | false => exact h.1
        · exact h.elim
      · exact h.elim
    · exact h.elim
  · exact h.elim

theorem eopM {st : St} {a : Act} {o : Oper} {K : SV → St → Prop} {Q : Exit → Act → World → Prop} {w : World} (h0 : SOK ds B ρ0 σ0 st a w) (h : eop P st o.op fun s tbl => K s { st with tbl := tbl }) :
    o.wp P a w (MopPost ds B ρ0 σ0 a o K) Q := by
  obtain ⟨ρ, σ, hE, hT, hn, hag⟩ := h0
  refine Oper.wp_mono (fun a' w' hp => ?_) (eop_sound (P := P) (Q := Q) hE hT h)
  obtain ⟨s, v, tbl', ρ', σ', rfl, hK, hv, hle, hag', hT', _⟩ := hp
  refine ⟨s, _, v, ρ', σ', hK, rfl, hE.ext hle hag', hv, hT', ⟨Nat.le_trans hn.1 hle, hn.2⟩, fun i hi hm => ?_⟩
  have h1 := hag' i (by have : i < st.n0 := hi; omega)
  have h2 := hag i hi hm
  exact ⟨h1.1.trans h2.1, h1.2.trans h2.2⟩

theorem mop_sound {st : St} {a : Act} {o : Oper} {K : SV → St → Prop} {Q : Exit → Act → World → Prop} {w : World} (hS : SpecsOK P S) (h0 : SOK ds B ρ0 σ0 st a w) (h : mop P S st o.op K) :
    o.wp P a w (MopPost ds B ρ0 σ0 a o K) Q := by
  unfold mop at h
  split at h
  · rename_i c ho
    split at h
    · rename_i b hb
      obtain ⟨ρ, σ, hE, hT, hn, hag⟩ := h0
      refine Oper.wp_mono (fun a' w' hp => ?_) (builtinM_sound (P := P) (Q := Q) hE hT ho hb h)
      obtain ⟨v, rfl, s, st', ρ', σ', js, hK, hrel, hT', hnt, hn0, hle, henv, hag', hmv⟩ := hp
      have hE' : EOK ds st'.tbl.length ρ' σ' st'.env st'.nt a := by
        rw [hnt]
        rcases henv with he | ⟨rfl, he⟩
        · rw [he]; exact hE.purge hle hag'
        · rw [he]; exact hE.ext hle (fun i hi => hag' i hi (by simp))
      refine ⟨s, st', v, ρ', σ', hK, rfl, hE', hrel, hT', ⟨?_, ?_⟩, fun i hi hm => ?_⟩
      · rw [hn0]; exact Nat.le_trans hn.1 hle
      · rw [hn0]; exact hn.2
      · rw [hn0] at hi
        obtain ⟨h1, h2⟩ := hmv i hi hm
        have h3 := hag' i (by omega) h2
        have h4 := hag i hi h1
        exact ⟨h3.1.trans h4.1, h3.2.trans h4.2⟩
    · exact callM_sound hS ho h0 h
  · exact eopM h0 h

/-- Operations in order. -/
def vo (P : Program) (S : Specs) (ops : List Oper) : List Oper → St → (St → Prop) → Prop
  | [], st, K => K st
  | o :: r, st, K => gd ops st.env o.guard
      (fun env => match isQ P S env o.op with
        | true => qop P S env st.tbl o.op fun s => putE st.nt o.dst s env fun env => vo P S ops r { st with env := env } K
        | false => mop P S { st with env := env } o.op fun s st => putE st.nt o.dst s st.env fun env => vo P S ops r { st with env := env } K)
      (fun env => putE st.nt o.dst (.v undef) env fun env => vo P S ops r { st with env := env } K)

theorem vo_sound {ops : List Oper} {Q : Exit → Act → World → Prop} {K : St → Prop} (hS : SpecsOK P S) (hQ : ∀ st a w, K st → SOK ds B ρ0 σ0 st a w → Q .normal a w) :
    ∀ {l : List Oper} {st : St} {a : Act} {w : World}, SOK ds B ρ0 σ0 st a w → vo P S ops l st K → wpList P ops.toArray Q l a w
  | [], st, a, w, h0, h => hQ st a w h h0
  | o :: r, st, a, w, h0, h => by
    obtain ⟨ρ, σ, hE, hT, hn, hag⟩ := h0
    simp only [vo] at h
    obtain ⟨env1, hE1, ⟨hw, h⟩ | ⟨hw, h⟩⟩ := gd_sound hE h
    · simp only [wpList, hw, if_true]
      left
      split at h
      · obtain ⟨s, v, h, hv, hy⟩ := qop_sound (P := P) hE1 hT hS h
        refine Oper.wp_of_quiet (C := Fr [] w) (K := fun a' => a' = a.put o.dst v) (Fr.refl _ _) (fun a' w' hw' ha' => ?_) ⟨v, hy, rfl⟩
        subst ha'
        obtain ⟨env2, h, hE2⟩ := putE_sound hE1 hv h
        exact vo_sound hS hQ (st := { st with env := env2 }) ⟨ρ, σ, hE2, hT.still hw', hn, hag⟩ h
      · refine Oper.wp_mono (fun a' w' hp => ?_) (mop_sound (Q := Q) hS (st := { st with env := env1 }) ⟨ρ, σ, hE1, hT, hn, hag⟩ h)
        obtain ⟨s, st', v, ρ', σ', h, rfl, hE', hv, hT', hn', hag'⟩ := hp
        obtain ⟨env2, h, hE2⟩ := putE_sound hE' hv h
        exact vo_sound hS hQ (st := { st' with env := env2 }) ⟨ρ', σ', hE2, hT', hn', hag'⟩ h
    · simp only [wpList, hw]
      obtain ⟨env2, h, hE2⟩ := putE_sound hE1 (s := .v undef) (v := undef) (by simp [Rel]) h
      exact vo_sound hS hQ (st := { st with env := env2 }) ⟨ρ, σ, hE2, hT, hn, hag⟩ h

/-- How many operations at the head only look. -/
def qlen (P : Program) (S : Specs) (env : Env) : List Oper → Nat
  | [] => 0
  | o :: r => match isQ P S env o.op with
    | true => qlen P S env r + 1
    | false => 0

/-- One operation, whatever it does. -/
def v1 (P : Program) (S : Specs) (ops : List Oper) (o : Oper) (st : St) (K : St → Prop) : Prop :=
  gd ops st.env o.guard
    (fun env => match isQ P S env o.op with
      | true => qop P S env st.tbl o.op fun s => putE st.nt o.dst s env fun env => K { st with env := env }
      | false => mop P S { st with env := env } o.op fun s st => putE st.nt o.dst s st.env fun env => K { st with env := env })
    (fun env => putE st.nt o.dst (.v undef) env fun env => K { st with env := env })

theorem v1_sound {ops : Array Oper} {Q : Exit → Act → World → Prop} {K : St → Prop} {K' : Act → World → Prop} (hS : SpecsOK P S) (hQ : ∀ st a w, K st → SOK ds B ρ0 σ0 st a w → K' a w)
    {i : Nat} {o : Oper} (hi : ops[i]? = some o) {st : St} {a : Act} {w : World} (h0 : SOK ds B ρ0 σ0 st a w) (h : v1 P S ops.toList o st K) : wpOp P ops Q i K' a w := by
  obtain ⟨ρ, σ, hE, hT, hn, hag⟩ := h0
  unfold v1 at h
  unfold wpOp
  rw [hi]
  obtain ⟨env1, hE1, ⟨hw, h⟩ | ⟨hw, h⟩⟩ := gd_sound hE h
  · rw [Array.toArray_toList] at hw
    simp only [hw, if_true]
    left
    split at h
    · obtain ⟨s, v, h, hv, hy⟩ := qop_sound (P := P) hE1 hT hS h
      refine Oper.wp_of_quiet (C := Fr [] w) (K := fun a' => a' = a.put o.dst v) (Fr.refl _ _) (fun a' w' hw' ha' => ?_) ⟨v, hy, rfl⟩
      subst ha'
      obtain ⟨env2, h, hE2⟩ := putE_sound hE1 hv h
      exact hQ _ _ _ h ⟨ρ, σ, hE2, hT.still hw', hn, hag⟩
    · refine Oper.wp_mono (fun a' w' hp => ?_) (mop_sound (Q := Q) hS (st := { st with env := env1 }) ⟨ρ, σ, hE1, hT, hn, hag⟩ h)
      obtain ⟨s, st', v, ρ', σ', h, rfl, hE', hv, hT', hn', hag'⟩ := hp
      obtain ⟨env2, h, hE2⟩ := putE_sound hE' hv h
      exact hQ _ _ _ h ⟨ρ', σ', hE2, hT', hn', hag'⟩
  · rw [Array.toArray_toList] at hw
    simp only [hw]
    obtain ⟨env2, h, hE2⟩ := putE_sound hE1 (s := .v undef) (v := undef) (by simp [Rel]) h
    exact hQ _ _ _ h ⟨ρ, σ, hE2, hT, hn, hag⟩

/-- One operation that looks at no memory. -/
def pureP (P : Program) (env : Env) (o : Op) (K : SV → Prop) : Prop := match o with
  | .move x => ev env x K
  | .assign x => ev env x K
  | .binOp op t x y _ => ev env x fun sx => ev env y fun sy => binS P op t sx sy K
  | .unOp op _ x => ev env x fun s => unS op s K
  | .field t x i => ev env x fun s => fieldS P t i s K
  | .index t x ix => ev env x fun s => ev env ix fun i => indexS P t s i K
  | .extract x i => ev env x fun s => match s with
    | .tup l => match nth l i with
      | some s => K s
      | none => False
    | _ => False
  | .fieldAddr t x i => ev env x fun s => fieldAddrS P t s i K
  | .indexAddr t x ix => ev env x fun s => ev env ix fun i => indexAddrS P t s i K
  | .nilCheck x => ev env x fun s => match s with
    | .ptr i off => K (.ptr i off)
    | .pix i off s ix c => K (.pix i off s ix c)
    | .fn (.func f) a b => K (.fn (.func f) a b)
    | _ => False
  | .makeFunc (.func f) first cap => match evs env first.toList, evs env cap.toList with
    | some a, some b => K (.fn (.func f) a b)
    | _, _ => False
  | _ => False
def isP (o : Oper) : Bool := match o.guard with
  | none => match o.op with
    | .move _ | .assign _ | .binOp .. | .unOp .. | .field .. | .index .. | .extract .. | .fieldAddr .. | .indexAddr .. | .nilCheck _ | .makeFunc .. => true
    | _ => false
  | some _ => false
theorem pureP_sound {n : Nat} {ρ : Nat → Nat} {σ : Nat → Nat × Nat} {env : Env} {nt : Nat} {a : Act} (hE : EOK ds n ρ σ env nt a) {ops : Array Oper} {o : Oper} {K : SV → Prop} (hg : isP o = true) (h : pureP P env o.op K) :
    ∃ s v, K s ∧ Rel n ρ σ s v ∧ Yields P ops o v a := by
  have hgu : o.guard = none := by
    unfold isP at hg
    split at hg
    · assumption
    · cases hg
  have yl : ∀ {v : Value}, (∀ w, (execOp a.eval o).run P w = .ok (.value v) w) → Yields P ops o v a := fun h => .inl ⟨by simp [Region.wanted, hgu], h⟩
  have yv : ∀ {v : Value} {x : Sem Value}, (∀ w, x.run P w = .ok v w) → execOp a.eval o = (do return .value (← x)) → Yields P ops o v a := fun h e => yl fun w => by
    rw [e]; simp [h w]
  unfold pureP at h
  split at h <;> rename_i ho
  · obtain ⟨s, hs, hK⟩ := ev_spec h
    exact ⟨s, _, hK, evo_sound hE hs, yl fun w => by simp [execOp, ho]⟩
  · obtain ⟨s, hs, hK⟩ := ev_spec h
    exact ⟨s, _, hK, evo_sound hE hs, yl fun w => by simp [execOp, ho]⟩
  · rename_i op t x y yt
    obtain ⟨sx, hx, h⟩ := ev_spec h
    obtain ⟨sy, hy, h⟩ := ev_spec h
    obtain ⟨s, v, hK, hv, hrun⟩ := binS_sound (P := P) (evo_sound hE hx) (evo_sound hE hy) x y h
    exact ⟨s, v, hK, hv, yv hrun (by simp [execOp, ho])⟩
  · obtain ⟨sx, hx, h⟩ := ev_spec h
    obtain ⟨s, v, hK, hv, hrun⟩ := unS_sound (P := P) (evo_sound hE hx) h
    exact ⟨s, v, hK, hv, yv hrun (by simp [execOp, ho])⟩
  · obtain ⟨sx, hx, h⟩ := ev_spec h
    obtain ⟨s, v, hK, hv, hrun⟩ := fieldS_sound (P := P) (evo_sound hE hx) h
    exact ⟨s, v, hK, hv, yv hrun (by simp [execOp, ho])⟩
  · obtain ⟨sx, hx, h⟩ := ev_spec h
    obtain ⟨sy, hy, h⟩ := ev_spec h
    obtain ⟨s, v, hK, hv, hrun⟩ := indexS_sound (P := P) (evo_sound hE hx) (evo_sound hE hy) h
    exact ⟨s, v, hK, hv, yv hrun (by simp [execOp, ho])⟩
  · rename_i x ix
    obtain ⟨sx, hx, h⟩ := ev_spec h
    have hr := evo_sound hE hx
    split at h
    · split at h
      · rename_i s hs
        rw [nth_eq] at hs
        simp only [Rel] at hr
        obtain ⟨cs, h1, h2⟩ := hr
        obtain ⟨v, hv1, hv2⟩ := RelL.get h2 hs
        refine ⟨s, v, h, hv2, yv (x := Instr.extract (a.eval x) ix) (fun w => ?_) (by simp [execOp, ho])⟩
        have : cs[ix]? = some v := by simpa using hv1
        simp [Instr.extract, h1, this]
      · exact h.elim
    · exact h.elim
  · obtain ⟨sx, hx, h⟩ := ev_spec h
    obtain ⟨s, v, hK, hv, hrun⟩ := fieldAddrS_sound (P := P) (evo_sound hE hx) h
    exact ⟨s, v, hK, hv, yv hrun (by simp [execOp, ho])⟩
  · obtain ⟨sx, hx, h⟩ := ev_spec h
    obtain ⟨sy, hy, h⟩ := ev_spec h
    obtain ⟨s, v, hK, hv, hrun⟩ := indexAddrS_sound (P := P) (evo_sound hE hx) (evo_sound hE hy) h
    exact ⟨s, v, hK, hv, yv hrun (by simp [execOp, ho])⟩
  · obtain ⟨sx, hx, h⟩ := ev_spec h
    have hr := evo_sound hE hx
    split at h
    · have hr' := hr
      simp only [Rel] at hr'
      exact ⟨_, _, h, hr, yl fun w => by simp [execOp, ho, hr'.2]⟩
    · have hr' := hr
      simp only [Rel] at hr'
      exact ⟨_, _, h, hr, yl fun w => by simp [execOp, ho, hr'.2]⟩
    · have hr' := hr
      simp only [Rel] at hr'
      obtain ⟨x, y, h1, _⟩ := hr'
      exact ⟨_, _, h, hr, yl fun w => by simp [execOp, ho, h1]⟩
    · exact h.elim
  · rename_i f first cap
    split at h
    · rename_i l1 l2 h1 h2
      refine ⟨_, .func (.func f) (first.map a.eval) (cap.map a.eval), h, ?_, yv (x := Instr.makeFunc (.func f) (first.map a.eval) (cap.map a.eval)) (fun w => ?_) (by simp [execOp, ho])⟩
      · simp only [Rel]
        exact ⟨_, _, rfl, by simpa using evs_sound hE h1, by simpa using evs_sound hE h2⟩
      · simp [Instr.makeFunc]
    · exact h.elim
  · exact h.elim
def firstP (ops : List Oper) (listed : Array Bool) : List Nat → Option (Nat × Oper)
  | [] => none
  | i :: r => match nth ops i with
    | some o => match isP o with
      | true => match Region.free .any ops.toArray listed i with
        | true => some (i, o)
        | false => firstP ops listed r
      | false => firstP ops listed r
    | none => firstP ops listed r
def allL (f : Nat → Prop) : List Nat → Prop
  | [] => True
  | i :: r => match r with
    | [] => f i
    | _ :: _ => f i ∧ allL f r
theorem allL_mem {f : Nat → Prop} : ∀ {l : List Nat}, allL f l → ∀ i ∈ l, f i
  | [j], h, i, hi => by simp at hi; subst hi; exact h
  | j :: k :: r, h, i, hi => by
    rcases List.mem_cons.1 hi with rfl | hi
    · exact h.1
    · exact allL_mem (l := k :: r) h.2 i hi
/-- Every order. -/
def va (P : Program) (S : Specs) (ops : List Oper) : Nat → Array Bool → St → (St → Prop) → Prop
  | 0, listed, st, K => match Region.ready .any ops.toArray listed with
    | [] => K st
    | _ :: _ => False
  | f + 1, listed, st, K => match Region.ready .any ops.toArray listed with
    | [] => K st
    | j :: r => match firstP ops listed (j :: r) with
      | some (i, o) => pureP P st.env o.op fun s => putE st.nt o.dst s st.env fun env => va P S ops f (listed.setIfInBounds i true) { st with env := env } K
      | none => allL (fun i => match nth ops i with
        | some o => v1 P S ops o st fun st' => va P S ops f (listed.setIfInBounds i true) st' K
        | none => False) (j :: r)
theorem firstP_spec {ops : List Oper} {listed : Array Bool} {i : Nat} {o : Oper} : ∀ {l : List Nat}, firstP ops listed l = some (i, o) → i ∈ l ∧ ops[i]? = some o ∧ isP o = true ∧ Region.free .any ops.toArray listed i = true
  | j :: r, h => by
    simp only [firstP] at h
    split at h
    · rename_i o' ho
      rw [nth_eq] at ho
      split at h
      · rename_i hx
        split at h
        · rename_i hf
          simp at h
          obtain ⟨rfl, rfl⟩ := h
          exact ⟨by simp, ho, hx, hf⟩
        · exact (firstP_spec h).imp_left (List.mem_cons_of_mem _)
      · exact (firstP_spec h).imp_left (List.mem_cons_of_mem _)
    · exact (firstP_spec h).imp_left (List.mem_cons_of_mem _)
theorem va_sound {ops : Array Oper} {Q : Exit → Act → World → Prop} {K : St → Prop} (hS : SpecsOK P S) (hs : Region.noSelect ops = true) (hp : ∀ c a w, ¬ Q (.panic c) a w) (hQ : ∀ st a w, K st → SOK ds B ρ0 σ0 st a w → Q .normal a w) :
    ∀ (g : Nat) (listed : Array Bool) (st : St) (a : Act) (w : World), SOK ds B ρ0 σ0 st a w → va P S ops.toList g listed st K → wpAny P .any ops Q g listed a w
  | 0, listed, st, a, w, h0, h => by
    simp only [va, Array.toArray_toList] at h
    split at h
    · rename_i hr
      exact wpAny_done hr (hQ _ _ _ h h0) 0
    · exact h.elim
  | g + 1, listed, st, a, w, h0, h => by
    simp only [va, Array.toArray_toList] at h
    split at h
    · rename_i hr
      exact wpAny_done hr (hQ _ _ _ h h0) _
    · rename_i j r hr
      split at h
      · rename_i i o hfp
        obtain ⟨hi, ho, hx, hfr⟩ := firstP_spec hfp
        obtain ⟨ρ, σ, hE, hT, hn, hag⟩ := h0
        obtain ⟨s, v, h, hrel, hy⟩ := pureP_sound (ops := ops) hE hx h
        obtain ⟨env', h, hE'⟩ := putE_sound (dst := o.dst) hE hrel h
        refine wpAny_take (by simpa using ho) hs (by simpa using hfr) (by rw [hr]; simpa using hi) (fun c a w h => absurd h (hp _ _ _)) hy ?_
        exact va_sound hS hs hp hQ g _ { st with env := env' } _ _ ⟨ρ, σ, hE', hT, hn, hag⟩ h
      · refine wpAny_all hr (by simp) fun i hi => ?_
        have h1 := allL_mem h i hi
        split at h1
        · rename_i o ho
          rw [nth_eq] at ho
          exact v1_sound hS (fun st' a' w' hK h0' => va_sound hS hs hp hQ g _ _ _ _ h0' hK) (by simpa using ho) h0 h1
        · exact h1.elim

end

end Go.Proofs.YtmnenigmkfnciaaGreatDoor.Sx
