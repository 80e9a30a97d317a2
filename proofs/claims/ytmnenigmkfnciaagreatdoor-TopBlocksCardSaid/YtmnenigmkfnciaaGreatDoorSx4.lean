/- The quiet operations of the walk by computation: slices, conversions, aggregates, built-ins. No condition. -/
import Derived.Test.YtmnenigmkfnciaaGreatDoorSx3
namespace Go.Proofs.YtmnenigmkfnciaaGreatDoor.Sx
open Go
variable {ds : List Deferred}

/-! ### x[l:h], x[l:h:m] -/
/-- A bound that may stand there. -/
def bnd (env : Env) (x : Option Operand) (f : Option Int → Prop) : Prop :=
  match x with
  | none => f none
  | some x => match evo env x with
    | some (.v (.int _ i)) => f (some i)
    | _ => False

/-- A bound of an empty slice. -/
def zb : Option Int → Bool
  | none => true
  | some i => i == 0
def zbs (lo hi : Option Int) : Option Int → Bool
  | none => zb lo && zb hi
  | some m => match hi with
    | some h => zb lo && ((h == 0) && (m == 0))
    | none => false
def sliceS (P : Program) (tbl : List Blk) (t : TypeId) (a : SV) (lo hi m : Option Int) (K : SV → Prop) : Prop :=
  match a, P.underlying t with
  | .v (.string s), some .string => match m with
    | some _ => False
    | none => match hi, lo with
      | some h, some l => ob (decide (0 ≤ l) && decide (l ≤ h) && decide (h ≤ s.size)) (K (.v (.string (s.extract l.toNat h.toNat))))
      | some h, none => ob (decide (0 ≤ h) && decide (h ≤ s.size)) (K (.v (.string (s.extract 0 h.toNat))))
      | none, some l => ob (decide (0 ≤ l) && decide (l ≤ s.size)) (K (.v (.string (s.extract l.toNat s.size))))
      | none, none => K (.v (.string (s.extract 0 s.size)))
  | .slc i off len cp s, some (.slice e) => match sizeT P e with
    | some sz => match Nat.beq sz s with
      | true => match m, hi, lo with
        | none, some h, some l => ob (decide (0 ≤ l) && decide (l ≤ h) && decide (h ≤ cp)) (K (.slc i (off + l.toNat * s) (h.toNat - l.toNat) (cp - l.toNat) s))
        | none, some h, none => ob (decide (0 ≤ h) && decide (h ≤ cp)) (K (.slc i off h.toNat cp s))
        | none, none, some l => ob (decide (0 ≤ l) && decide (l ≤ len)) (K (.slc i (off + l.toNat * s) (len - l.toNat) (cp - l.toNat) s))
        | none, none, none => K (.slc i off len cp s)
        | some m, some h, some l => ob (decide (0 ≤ l) && decide (l ≤ h) && decide (h ≤ m) && decide (m ≤ cp)) (K (.slc i (off + l.toNat * s) (h.toNat - l.toNat) (m.toNat - l.toNat) s))
        | some m, some h, none => ob (decide (0 ≤ h) && decide (h ≤ m) && decide (m ≤ cp)) (K (.slc i off h.toNat m.toNat s))
        | _, _, _ => False
      | false => False
    | none => False
  | .ptr i off, some (.array n e) => match sizeT P e, nth tbl i with
    | some sz, some b => ob (!b.isDead && decide (off + n * sz ≤ b.len)) (match m, hi, lo with
      | none, some h, some l => ob (decide (0 ≤ l) && decide (l ≤ h) && decide (h ≤ n)) (K (.slc i (off + l.toNat * sz) (h.toNat - l.toNat) (n - l.toNat) sz))
      | none, some h, none => ob (decide (0 ≤ h) && decide (h ≤ n)) (K (.slc i off h.toNat n sz))
      | none, none, some l => ob (decide (0 ≤ l) && decide (l ≤ n)) (K (.slc i (off + l.toNat * sz) (n - l.toNat) (n - l.toNat) sz))
      | none, none, none => K (.slc i off n n sz)
      | _, _, _ => False)
    | _, _ => False
  | .v (.slice none 0 0), some (.slice e) => match sizeT P e, zbs lo hi m with
    | some _, true => K (.v (.slice none 0 0))
    | _, _ => False
  | _, _ => False

section
variable {P : Program} {n : Nat} {ρ : Nat → Nat} {σ : Nat → Nat × Nat} {B : Base} {tbl : List Blk} {w1 : World}

/-- The machine's bounds, read. -/
def BndR (v : Option Value) (i : Option Int) : Prop := match v, i with
  | none, none => True
  | some v, some i => ∃ k, v = .int k i
  | _, _ => False

theorem run_sliceBound {k : IntKind} {i : Int} {y : Nat} {code : BoundsCode} (w : World) (h : 0 ≤ i ∧ i ≤ y) : (Instr.sliceBound (.int k i) y code).run P w = .ok i.toNat w := by
  simp [Instr.sliceBound, asIntOf, h]

theorem bnds {isS : Bool} {len cap : Nat} {lo hi m : Option Int} {vlo vhi vm : Option Value} (h1 : BndR vlo lo) (h2 : BndR vhi hi) (h3 : BndR vm m)
    (hm : ∀ i, m = some i → 0 ≤ i ∧ i ≤ cap) (hmh : ∀ i, m = some i → ∃ j, hi = some j)
    (hh : ∀ i, hi = some i → 0 ≤ i ∧ i ≤ ((m.map Int.toNat).getD cap : Nat))
    (hl : ∀ i, lo = some i → 0 ≤ i ∧ i ≤ ((hi.map Int.toNat).getD len : Nat)) (w : World) :
    (Instr.sliceBounds isS len cap vlo vhi vm).run P w = .ok ((lo.map Int.toNat).getD 0, (hi.map Int.toNat).getD len, (m.map Int.toNat).getD cap) w := by
  unfold Instr.sliceBounds
  cases m with
  | none =>
    cases vm with
    | some v => simp [BndR] at h3
    | none =>
      cases hi with
      | none =>
        cases vhi with
        | some v => simp [BndR] at h2
        | none =>
          cases lo with
          | none =>
            cases vlo with
            | some v => simp [BndR] at h1
            | none => simp
          | some l =>
            cases vlo with
            | none => simp [BndR] at h1
            | some v =>
              simp only [BndR] at h1
              obtain ⟨k, rfl⟩ := h1
              have := hl l rfl
              simp at this
              simp [run_sliceBound (P := P) w this]
      | some h =>
        cases vhi with
        | none => simp [BndR] at h2
        | some v =>
          simp only [BndR] at h2
          obtain ⟨k, rfl⟩ := h2
          have hh' := hh h rfl
          simp at hh'
          cases lo with
          | none =>
            cases vlo with
            | some v => simp [BndR] at h1
            | none => simp [run_sliceBound (P := P) w hh']
          | some l =>
            cases vlo with
            | none => simp [BndR] at h1
            | some v =>
              simp only [BndR] at h1
              obtain ⟨k, rfl⟩ := h1
              have := hl l rfl
              have this : 0 ≤ l ∧ l ≤ (h.toNat : Nat) := by simpa using this
              simp [run_sliceBound (P := P) w hh', run_sliceBound (P := P) w this]
  | some m =>
    cases vm with
    | none => simp [BndR] at h3
    | some v =>
      simp only [BndR] at h3
      obtain ⟨k, rfl⟩ := h3
      have hm' := hm m rfl
      obtain ⟨h, rfl⟩ := hmh m rfl
      cases vhi with
      | none => simp [BndR] at h2
      | some v =>
        simp only [BndR] at h2
        obtain ⟨k, rfl⟩ := h2
        have hh' := hh h rfl
        have hh' : 0 ≤ h ∧ h ≤ (m.toNat : Nat) := by simpa using hh'
        cases lo with
        | none =>
          cases vlo with
          | some v => simp [BndR] at h1
          | none => simp [run_sliceBound (P := P) w hm', run_sliceBound (P := P) w hh']
        | some l =>
          cases vlo with
          | none => simp [BndR] at h1
          | some v =>
            simp only [BndR] at h1
            obtain ⟨k, rfl⟩ := h1
            have := hl l rfl
            have this : 0 ≤ l ∧ l ≤ (h.toNat : Nat) := by simpa using this
            simp [run_sliceBound (P := P) w hm', run_sliceBound (P := P) w hh', run_sliceBound (P := P) w this]

/-- A slice that was sliced. -/
theorem slc_slice {t e : TypeId} {i off len cp s : Nat} {va : Value} {lo hi m : Option Int} {vlo vhi vm : Option Value} (h1 : BndR vlo lo) (h2 : BndR vhi hi) (h3 : BndR vm m)
    (hu : P.underlying t = some (.slice e)) (hz : sizeT P e = some s) (ha : Rel n ρ σ (.slc i off len cp s) va)
    (hm : ∀ i, m = some i → 0 ≤ i ∧ i ≤ cp) (hmh : ∀ i, m = some i → ∃ j, hi = some j)
    (hh : ∀ i, hi = some i → 0 ≤ i ∧ i ≤ ((m.map Int.toNat).getD cp : Nat))
    (hl : ∀ i, lo = some i → 0 ≤ i ∧ i ≤ ((hi.map Int.toNat).getD len : Nat)) :
    ∃ v, Rel n ρ σ (.slc i (off + (lo.map Int.toNat).getD 0 * s) ((hi.map Int.toNat).getD len - (lo.map Int.toNat).getD 0) ((m.map Int.toNat).getD cp - (lo.map Int.toNat).getD 0) s) v ∧
      ∀ w, (Instr.sliceAt t va vlo vhi vm).run P w = .ok v w := by
  simp only [Rel] at ha
  obtain ⟨hi1, hlc, ha⟩ := ha
  have hlh : (lo.map Int.toNat).getD 0 ≤ (hi.map Int.toNat).getD len := by
    cases lo with
    | none => simp
    | some l => have := hl l rfl; simp; omega
  have hhm : (hi.map Int.toNat).getD len ≤ (m.map Int.toNat).getD cp := by
    cases hi with
    | none =>
      cases m with
      | none => simpa using hlc
      | some m => obtain ⟨j, hj⟩ := hmh m rfl; cases hj
    | some h => have := hh h rfl; simp; omega
  have hmc : (m.map Int.toNat).getD cp ≤ cp := by
    cases m with
    | none => simp
    | some m => have := hm m rfl; simp; omega
  have key : ∀ a c, va = .slice a len c → cp ≤ c → ∀ w, (Instr.sliceAt t va vlo vhi vm).run P w =
      .ok (.slice (if (m.map Int.toNat).getD c = (lo.map Int.toNat).getD 0 then a else a.map (·.add ((lo.map Int.toNat).getD 0 * s))) ((hi.map Int.toNat).getD len - (lo.map Int.toNat).getD 0) ((m.map Int.toNat).getD c - (lo.map Int.toNat).getD 0)) w := by
    rintro a c rfl hc w
    have hb := bnds (P := P) (isS := true) (len := len) (cap := c) h1 h2 h3 (fun i hi => by have := hm i hi; omega) hmh (fun i hi => by
      have := hh i hi
      cases m with
      | none => simp at this ⊢; omega
      | some m => simpa using this) hl w
    simp only [Instr.sliceAt, Sem.run_bind, run_und w hu, Result.andThen_ok, Instr.slice, hb, run_sizeT w hz, Sem.run_pure]
  rcases ha with ⟨rfl, h0, h0'⟩ | ⟨o, c, rfl, hc, ho, hz'⟩
  · have e1 : (m.map Int.toNat).getD cp = 0 := by omega
    have e2 : (hi.map Int.toNat).getD len = 0 := by omega
    have e3 : (lo.map Int.toNat).getD 0 = 0 := by omega
    subst h0 h0'
    refine ⟨_, ?_, fun w => key none 0 rfl (Nat.le_refl _) w⟩
    rw [e1, e2, e3]
    simp only [Rel]
    exact ⟨hi1, by simp, .inl (by simp)⟩
  · refine ⟨_, ?_, fun w => key (some ⟨ρ i, (σ i).2 + o, none⟩) c rfl hc w⟩
    have hmc' : (m.map Int.toNat).getD cp ≤ (m.map Int.toNat).getD c := by cases m <;> simp <;> omega
    have hmc2 : (m.map Int.toNat).getD c ≤ c := by
      cases m with
      | none => simp
      | some m => have := hm m rfl; simp; omega
    simp only [Rel]
    refine ⟨hi1, by omega, .inr ?_⟩
    generalize (m.map Int.toNat).getD c = mc at *
    generalize (m.map Int.toNat).getD cp = mp at *
    generalize (hi.map Int.toNat).getD len = hh at *
    generalize (lo.map Int.toNat).getD 0 = ll at *
    by_cases e : mc = ll
    · refine ⟨o, 0, by simp [e], by omega, .inr rfl, ?_⟩
      have : o ≤ (σ i).1 := by
        have := Nat.le_add_right o (c * s)
        omega
      simpa using this
    · have hcpos : c ≠ 0 := by omega
      have ho : o = off := by rcases ho with ho | ho <;> omega
      subst ho
      refine ⟨o + ll * s, mc - ll, by simp [e, addr_add, Nat.add_assoc], by omega, .inl rfl, ?_⟩
      have h5 : ll * s + (mc - ll) * s = mc * s := by rw [← Nat.add_mul]; congr 1; omega
      have h6 : mc * s ≤ c * s := Nat.mul_le_mul_right s hmc2
      omega

theorem str_slice {t : TypeId} {s : ByteArray} {lo hi : Option Int} {vlo vhi : Option Value} (h1 : BndR vlo lo) (h2 : BndR vhi hi) (hu : P.underlying t = some .string)
    (hh : ∀ i, hi = some i → 0 ≤ i ∧ i ≤ (s.size : Int)) (hl : ∀ i, lo = some i → 0 ≤ i ∧ i ≤ ((hi.map Int.toNat).getD s.size : Nat)) (w : World) :
    (Instr.sliceAt t (.string s) vlo vhi none).run P w = .ok (.string (s.extract ((lo.map Int.toNat).getD 0) ((hi.map Int.toNat).getD s.size))) w := by
  have hb := bnds (P := P) (isS := false) (len := s.size) (cap := s.size) (m := none) (vm := none) h1 h2 trivial (fun i hi => by cases hi) (fun i hi => by cases hi) (fun i hi => by simpa using hh i hi) hl w
  simp [Instr.sliceAt, run_und w hu, Instr.slice, hb]

theorem arr_slice {t e : TypeId} {len sz i off : Nat} {va : Value} {lo hi : Option Int} {vlo vhi : Option Value} (h1 : BndR vlo lo) (h2 : BndR vhi hi)
    (hu : P.underlying t = some (.array len e)) (hz : sizeT P e = some sz) (ha : Rel n ρ σ (.ptr i off) va) (hs : off + len * sz ≤ (σ i).1)
    (hh : ∀ i, hi = some i → 0 ≤ i ∧ i ≤ (len : Int)) (hl : ∀ i, lo = some i → 0 ≤ i ∧ i ≤ ((hi.map Int.toNat).getD len : Nat)) :
    ∃ v, Rel n ρ σ (.slc i (off + (lo.map Int.toNat).getD 0 * sz) ((hi.map Int.toNat).getD len - (lo.map Int.toNat).getD 0) (len - (lo.map Int.toNat).getD 0) sz) v ∧
      ∀ w, (Instr.sliceAt t va vlo vhi none).run P w = .ok v w := by
  simp only [Rel] at ha
  obtain ⟨hi1, rfl⟩ := ha
  have hb := fun w => bnds (P := P) (isS := false) (len := len) (cap := len) (m := none) (vm := none) h1 h2 trivial (fun i hi => by cases hi) (fun i hi => by cases hi) (fun i hi => by simpa using hh i hi) hl w
  have hlh : (lo.map Int.toNat).getD 0 ≤ (hi.map Int.toNat).getD len := by
    cases lo with
    | none => simp
    | some l => have := hl l rfl; simp; omega
  have hhm : (hi.map Int.toNat).getD len ≤ len := by
    cases hi with
    | none => simp
    | some h => have := hh h rfl; simp; omega
  refine ⟨.slice (some (if len = (lo.map Int.toNat).getD 0 then ⟨ρ i, (σ i).2 + off, none⟩ else (⟨ρ i, (σ i).2 + off, none⟩ : Addr).add ((lo.map Int.toNat).getD 0 * sz))) ((hi.map Int.toNat).getD len - (lo.map Int.toNat).getD 0) (len - (lo.map Int.toNat).getD 0), ?_, fun w => ?_⟩
  · simp only [Rel]
    generalize (hi.map Int.toNat).getD len = hh at *
    generalize (lo.map Int.toNat).getD 0 = ll at *
    refine ⟨hi1, by omega, .inr ?_⟩
    by_cases e : len = ll
    · refine ⟨off, 0, by simp [e], by omega, .inr rfl, ?_⟩
      have := Nat.le_add_right off (len * sz)
      simp; omega
    · refine ⟨off + ll * sz, len - ll, by simp [e, addr_add, Nat.add_assoc], by omega, .inl rfl, ?_⟩
      have h5 : ll * sz + (len - ll) * sz = len * sz := by rw [← Nat.add_mul]; congr 1; omega
      omega
  · simp [Instr.sliceAt, run_und w hu, Instr.sureAddr, hb w, run_sizeT w hz]

theorem sliceS_sound {t : TypeId} {a : SV} {va : Value} {lo hi m : Option Int} {vlo vhi vm : Option Value} {K : SV → Prop} (hT : ∀ {i : Nat} {b : Blk}, nth tbl i = some b → b.isDead = false → ∃ pre, Pre tbl.length ρ σ b pre ∧ (pre.length = 0 ∨ ∀ w, Fr [] w1 w → Lies w (ρ i) (σ i) pre) ∧ pre.length ≤ (σ i).1)
    (h1 : BndR vlo lo) (h2 : BndR vhi hi) (h3 : BndR vm m) (ha : Rel tbl.length ρ σ a va) (h : sliceS P tbl t a lo hi m K) :
    ∃ s v, K s ∧ Rel tbl.length ρ σ s v ∧ ∀ w, (Instr.sliceAt t va vlo vhi vm).run P w = .ok v w := by
  unfold sliceS at h
  split at h
  · rename_i s hu
    simp only [Rel] at ha
    subst ha
    cases m with
    | some m => exact h.elim
    | none =>
      cases vm with
      | some v => simp [BndR] at h3
      | none =>
        cases hi <;> cases lo <;> simp only [ob_iff] at h
        · exact ⟨_, _, h, rfl, fun w => by simpa using str_slice (P := P) (s := s) h1 h2 hu (fun i hi => by cases hi) (fun i hi => by cases hi) w⟩
        · rename_i l
          simp at h
          exact ⟨_, _, h.2, rfl, fun w => by simpa using str_slice (P := P) (s := s) h1 h2 hu (fun i hi => by cases hi) (fun i hi => by cases hi; simp; omega) w⟩
        · rename_i hh
          simp at h
          exact ⟨_, _, h.2, rfl, fun w => by simpa using str_slice (P := P) (s := s) h1 h2 hu (fun i hi => by cases hi; omega) (fun i hi => by cases hi) w⟩
        · rename_i hh l
          simp at h
          exact ⟨_, _, h.2, rfl, fun w => by simpa using str_slice (P := P) (s := s) h1 h2 hu (fun i hi => by cases hi; omega) (fun i hi => by cases hi; simp; omega) w⟩
  · rename_i i off len cp s e hu
    split at h
    · rename_i sz hsz
      split at h
      · rename_i hs
        have := Nat.eq_of_beq_eq_true hs; subst this
        have hlc : len ≤ cp := by simp only [Rel] at ha; exact ha.2.1
        have go := slc_slice (P := P) (m := m) h1 h2 h3 hu hsz ha
        split at h
        · rename_i hh l
          rw [ob_iff] at h; simp at h
          obtain ⟨v, hv, hr⟩ := go (fun i hi => by cases hi) (fun i hi => by cases hi) (fun i hi => by cases hi; simp; omega) (fun i hi => by cases hi; simp; omega)
          exact ⟨_, v, h.2, by simpa using hv, hr⟩
        · rename_i hh
          rw [ob_iff] at h; simp at h
          obtain ⟨v, hv, hr⟩ := go (fun i hi => by cases hi) (fun i hi => by cases hi) (fun i hi => by cases hi; simp; omega) (fun i hi => by cases hi)
          exact ⟨_, v, h.2, by simpa using hv, hr⟩
        · rename_i l
          rw [ob_iff] at h; simp at h
          obtain ⟨v, hv, hr⟩ := go (fun i hi => by cases hi) (fun i hi => by cases hi) (fun i hi => by cases hi) (fun i hi => by cases hi; simp; omega)
          exact ⟨_, v, h.2, by simpa using hv, hr⟩
        · obtain ⟨v, hv, hr⟩ := go (fun i hi => by cases hi) (fun i hi => by cases hi) (fun i hi => by cases hi) (fun i hi => by cases hi)
          exact ⟨_, v, h, by simpa using hv, hr⟩
        · rename_i m hh l
          rw [ob_iff] at h; simp at h
          obtain ⟨v, hv, hr⟩ := go (fun i hi => by cases hi; omega) (fun i hi => ⟨_, rfl⟩) (fun i hi => by cases hi; simp; omega) (fun i hi => by cases hi; simp; omega)
          exact ⟨_, v, h.2, by simpa using hv, hr⟩
        · rename_i m hh
          rw [ob_iff] at h; simp at h
          obtain ⟨v, hv, hr⟩ := go (fun i hi => by cases hi; omega) (fun i hi => ⟨_, rfl⟩) (fun i hi => by cases hi; simp; omega) (fun i hi => by cases hi)
          exact ⟨_, v, h.2, by simpa using hv, hr⟩
        · exact h.elim
      · exact h.elim
    · exact h.elim
  · rename_i i off n e hu
    split at h
    · rename_i sz b hsz hb
      rw [ob_iff] at h
      obtain ⟨hd, h⟩ := h
      simp at hd
      obtain ⟨pre, hp, _, hle⟩ := hT hb hd.1
      have := hp.length
      have go := arr_slice (P := P) (lo := lo) (hi := hi) h1 h2 hu hsz ha (by omega)
      cases m with
      | some m => cases hi <;> cases lo <;> exact h.elim
      | none =>
        cases vm with
        | some v => simp [BndR] at h3
        | none =>
          cases hi <;> cases lo <;> simp only [ob_iff] at h
          · obtain ⟨v, hv, hr⟩ := go (fun i hi => by cases hi) (fun i hi => by cases hi)
            exact ⟨_, v, h, by simpa using hv, hr⟩
          · simp at h
            obtain ⟨v, hv, hr⟩ := go (fun i hi => by cases hi) (fun i hi => by cases hi; simp; omega)
            exact ⟨_, v, h.2, by simpa using hv, hr⟩
          · simp at h
            obtain ⟨v, hv, hr⟩ := go (fun i hi => by cases hi; omega) (fun i hi => by cases hi)
            exact ⟨_, v, h.2, by simpa using hv, hr⟩
          · simp at h
            obtain ⟨v, hv, hr⟩ := go (fun i hi => by cases hi; omega) (fun i hi => by cases hi; simp; omega)
            exact ⟨_, v, h.2, by simpa using hv, hr⟩
    · exact h.elim
  · rename_i e hu
    simp only [Rel] at ha
    subst ha
    split at h
    · rename_i sz hsz hz
      have hlo : ∀ i, lo = some i → i = 0 := fun i hi => by
        subst hi
        cases m with
        | none => simp [zbs, zb] at hz; exact hz.1
        | some m => cases hi <;> simp [zbs, zb] at hz; exact hz.1
      have hhi : ∀ i, hi = some i → i = 0 := fun i hi => by
        subst hi
        cases m with
        | none => simp [zbs, zb] at hz; exact hz.2
        | some m => simp [zbs, zb] at hz; exact hz.2.1
      have hm0 : ∀ i, m = some i → i = 0 ∧ ∃ j, hi = some j := fun i hi => by
        subst hi
        cases hi <;> simp [zbs, zb] at hz
        exact ⟨hz.2.2, _, rfl⟩
      have e1 : (lo.map Int.toNat).getD 0 = 0 := by cases lo with
        | none => rfl
        | some i => rw [hlo i rfl]; rfl
      have e2 : (hi.map Int.toNat).getD 0 = 0 := by cases hi with
        | none => rfl
        | some i => rw [hhi i rfl]; rfl
      have e3 : (m.map Int.toNat).getD 0 = 0 := by cases m with
        | none => rfl
        | some i => rw [(hm0 i rfl).1]; rfl
      refine ⟨_, _, h, rfl, fun w => ?_⟩
      have hb := bnds (P := P) (isS := true) (len := 0) (cap := 0) h1 h2 h3 (fun i hi => by rw [(hm0 i hi).1]; omega) (fun i hi => (hm0 i hi).2) (fun i hi => by rw [hhi i hi]; omega) (fun i hi => by rw [hlo i hi]; omega) w
      rw [e1, e2, e3] at hb
      simp only [Instr.sliceAt, Sem.run_bind, run_und w hu, Result.andThen_ok, Instr.slice, hb, run_sizeT w hsz, Sem.run_pure]
      rfl
    · exact h.elim
  · exact h.elim


/-! ### One value -/
def unS (op : UnOp) (a : SV) (K : SV → Prop) : Prop :=
  match op, a with
  | .not, .v (.bool b) => K (.v (.bool (!b)))
  | .neg, .v (.int k x) => K (.v (.int k (k.wrap (0 - x))))
  | .xor, .v (.int k x) => K (.v (.int k (ixor k (match k.signed with | true => -1 | false => k.max) x)))
  | _, _ => False
theorem unS_sound {op : UnOp} {a : SV} {va : Value} {K : SV → Prop} (ha : Rel n ρ σ a va) (h : unS op a K) :
    ∃ s v, K s ∧ Rel n ρ σ s v ∧ ∀ w, (Op.unary op va).run P w = .ok v w := by
  unfold unS at h
  split at h
  · simp only [Rel] at ha; subst ha; exact ⟨_, _, h, rfl, fun w => rfl⟩
  · simp only [Rel] at ha; subst ha; exact ⟨_, _, h, rfl, fun w => rfl⟩
  · rename_i k x
    simp only [Rel] at ha; subst ha
    refine ⟨_, _, h, rfl, fun w => ?_⟩
    simp only [Op.unary, Op.intBits, Sem.run_pure, ixor]
    cases k.signed <;> rfl
  · exact h.elim

/-- The numbers that a block holds, if all are of one kind. -/
def toInts (k : IntKind) : List SV → Option (List Int)
  | [] => some []
  | .v (.int k' x) :: l => match decide (k' = k), toInts k l with
    | true, some r => some (x :: r)
    | _, _ => none
  | _ => none
def Blk.nums (k : IntKind) : Blk → Option (List Int)
  | .ints _ k' l => match decide (k' = k) with
    | true => some l
    | false => none
  | .cells _ l => toInts k l
  | .dead | .tab _ _ _ | .map _ _ _ _ => none
theorem toInts_rel {k : IntKind} : ∀ {l : List SV} {r : List Int} {u : List Value}, toInts k l = some r → RelL n ρ σ l u → u = r.map (Value.int k)
  | [], r, u, h, hr => by simp only [toInts, Option.some.injEq] at h; subst h; simpa [RelL] using hr
  | a :: l, r, u, h, hr => by
    simp only [RelL] at hr
    obtain ⟨b, m, rfl, hb, hm⟩ := hr
    unfold toInts at h
    split at h
    · simp at h; simp_all
    · rename_i k' x l' heq
      simp at heq
      obtain ⟨rfl, rfl⟩ := heq
      split at h
      · rename_i r' hk hr'
        have := of_decide_eq_true hk; subst this
        simp at h; subst h
        simp only [Rel] at hb
        subst hb
        rw [toInts_rel hr' hm]; rfl
      · cases h
    · cases h
theorem Blk.nums_pre {k : IntKind} {b : Blk} {l : List Int} {u : List Value} (h : b.nums k = some l) (hp : Pre n ρ σ b u) : u = l.map (Value.int k) := by
  cases b with
  | dead => cases h
  | cells w c => exact toInts_rel h hp
  | ints w k' c =>
    simp only [Blk.nums] at h
    split at h
    · rename_i hk
      have := of_decide_eq_true hk; subst this
      simp at h; subst h; exact hp
    · cases h
  | tab w m cols => cases h
  | map w pl ks g => cases h

def convS (P : Program) (tbl : List Blk) (src dst : TypeId) (a : SV) (K : SV → Prop) : Prop :=
  match a, P.underlying src, P.underlying dst with
  | .v (.int _ x), some (.int _), some (.int k') => K (.v (.int k' (k'.wrap x)))
  | .v (.string s), some .string, some .string => K (.v (.string s))
  | .slc i off len _ _, some (.slice e), some .string => match P.underlying e, nth tbl i with
    | some (.int .u8), some b => match b.nums .u8 with
      | some l => ob (decide (off + len ≤ l.length)) (K (.v (.string (bstr ((l.drop off).take len)))))
      | none => False
    | _, _ => False
  | .v (.slice none 0 0), some (.slice e), some .string => match P.underlying e with
    | some (.int .u8) => K (.v (.string (bstr [])))
    | _ => False
  | .v (.float k b), some (.float _), some (.int k') => match Conv.floatToInt k b k' with
    | .pure v => K (.v v)
    | _ => False
  | _, _, _ => False

theorem bstr_push (l : List Int) (x : Int) : (bstr l).push (UInt8.ofNat x.toNat) = bstr (l ++ [x]) := by
  unfold bstr; simp [ByteArray.push]
theorem bstr_foldl : ∀ (l m : List Int), l.foldl (fun r n => r.push (UInt8.ofNat n.toNat)) (bstr m) = bstr (m ++ l)
  | [], m => by simp
  | x :: l, m => by rw [List.foldl_cons, bstr_push, bstr_foldl l]; simp

theorem convS_sound {src dst : TypeId} {a : SV} {va : Value} {K : SV → Prop} (hT : TOK ρ σ B tbl w1) (ha : Rel tbl.length ρ σ a va) (h : convS P tbl src dst a K) :
    ∃ s v, K s ∧ Rel tbl.length ρ σ s v ∧ ∀ w, Fr [] w1 w → (convert src dst va).run P w = .ok v w := by
  unfold convS at h
  split at h
  · rename_i _ x _ k' hs hd
    simp only [Rel] at ha; subst ha
    exact ⟨_, _, h, rfl, fun w _ => by simp [convert, run_und w hs, run_und w hd, Conv.intToInt]⟩
  · rename_i s hs hd
    simp only [Rel] at ha; subst ha
    exact ⟨_, _, h, rfl, fun w _ => by simp [convert, run_und w hs, run_und w hd]⟩
  · rename_i i off len cp sz e hs hd
    split at h
    · rename_i b he hb
      split at h
      · rename_i l hl
        rw [ob_iff] at h
        have hle := of_decide_eq_true h.1
        have hdead : b.isDead = false := by cases b <;> first | rfl | cases hl
        obtain ⟨pre, hp, hlies, _⟩ := hT.pre hb hdead
        have hpre := Blk.nums_pre hl hp
        simp only [Rel] at ha
        obtain ⟨hi, hlc, ha⟩ := ha
        have hconv : ∀ w v, (convert src dst v).run P w = (Conv.bytesToString v).run P w ∨ (∀ o l c, v ≠ .slice o l c) := fun w v => by
          by_cases hv : ∃ o l c, v = .slice o l c
          · obtain ⟨o, l, c, rfl⟩ := hv
            left
            cases o <;> simp [convert, run_und w hs, run_und w hd, run_und w he]
          · right; intro o l c hv'; exact hv ⟨o, l, c, hv'⟩
        rcases ha with ⟨rfl, h0, h0'⟩ | ⟨o, c, rfl, hc, ho, hz⟩
        · subst h0
          refine ⟨_, _, h.2, rfl, fun w _ => ?_⟩
          rcases hconv w (.slice none 0 0) with h1 | h1
          · rw [h1]; simp [Conv.bytesToString, bstr]; rfl
          · exact absurd rfl (h1 _ _ _)
        · refine ⟨_, _, h.2, rfl, fun w hw => ?_⟩
          rcases hconv w (.slice (some ⟨ρ i, (σ i).2 + o, none⟩) len c) with h1 | h1
          · rw [h1]
            have hload : (loadCells ⟨ρ i, (σ i).2 + o, none⟩ len).run P w = .ok (((l.drop off).take len).map (Value.int .u8)).toArray w := by
              by_cases hlen : len = 0
              · subst hlen; simp [loadCells, loadCellsFrom]
              · have ho : o = off := by rcases ho with ho | ho <;> omega
                subst ho
                have hlen2 := hp.length
                rcases hlies with h2 | h2
                · rw [hpre] at h2; simp at h2; subst h2; simp at hle; omega
                · have := run_loadCells_lies (P := P) (h2 w hw) o len (by rw [hpre]; simpa using hle)
                  rw [this, hpre]; simp [List.map_take, List.map_drop]
            rw [run_bytesToString w _ len c _ hload]
            have := bstr_foldl ((l.drop off).take len) []
            rw [List.nil_append] at this
            rw [← this]; rfl
          · exact absurd rfl (h1 _ _ _)
      · exact h.elim
    · exact h.elim
  · rename_i e hs hd
    simp only [Rel] at ha; subst ha
    split at h
    · rename_i he
      exact ⟨_, _, h, rfl, fun w _ => by simp [convert, run_und w hs, run_und w hd, run_und w he, Conv.bytesToString, bstr]; rfl⟩
    · exact h.elim
  · rename_i k b _ k' hs hd
    simp only [Rel] at ha; subst ha
    split at h
    · rename_i v hv
      exact ⟨_, _, h, rfl, fun w _ => by simp [convert, run_und w hs, run_und w hd, hv]⟩
    · exact h.elim
  · exact h.elim

/-! ### T{..} -/
def evsN (env : Env) : List (Nat × Operand) → Option (List (Nat × SV))
  | [] => some []
  | (i, x) :: r => match evo env x, evsN env r with
    | some s, some l => some ((i, s) :: l)
    | _, _ => none
/-- The parts laid into the cells: 'pl i' is where part i begins, and how many cells it has. -/
def fillS (pl : Nat → Option (Nat × Nat)) : List SV → List (Nat × SV) → Option (List SV)
  | cells, [] => some cells
  | cells, (i, s) :: r => match pl i, s.cs with
    | some (off, sz), some c => match Nat.beq c.length sz, Nat.ble (off + sz) cells.length with
      | true, true => fillS pl (putAt cells off c) r
      | _, _ => none
    | _, _ => none
def places (P : Program) : List Field → Option (List (Nat × Nat))
  | [] => some []
  | f :: r => match sizeT P f.type, places P r with
    | some n, some l => some ((f.offset, n) :: l)
    | _, _ => none
def buildS (P : Program) (t : TypeId) (parts : List (Nat × SV)) (K : SV → Prop) : Prop :=
  match zeroT P t, P.underlying t with
  | some z, some (.struct fs) => match places P fs.toList with
    | some pl => match fillS (nth pl) (z.map .v) parts with
      | some c => K (.agg c)
      | none => False
    | none => False
  | some z, some (.array _ e) => match sizeT P e with
    | some sz => match fillS (fun i => some (i * sz, sz)) (z.map .v) parts with
      | some c => K (.agg c)
      | none => False
    | none => False
  | _, _ => False

theorem SV.cs_rel {s : SV} {c : List SV} {v : Value} (hs : s.cs = some c) (hr : Rel n ρ σ s v) : RelL n ρ σ c v.cells.toList := by
  have one : ∀ (s : SV) (v : Value), (v.cells = #[v]) → Rel n ρ σ s v → RelL n ρ σ [s] v.cells.toList := fun s v hv hr => by
    rw [hv]; simp only [RelL]; exact ⟨v, [], rfl, hr, rfl⟩
  cases s with
  | agg l => simp only [SV.cs, Option.some.injEq] at hs; subst hs; simp only [Rel] at hr; obtain ⟨cs, rfl, h⟩ := hr; exact h
  | ia k l =>
    simp only [SV.cs, Option.some.injEq] at hs; subst hs; simp only [Rel] at hr; subst hr
    have := RelL.vs (n := n) (ρ := ρ) (σ := σ) (l.map (Value.int k))
    simpa [Value.cells, List.map_map, Function.comp_def] using this
  | tup l => cases hs
  | unk => cases hs
  | v x =>
    have e : x.cells = #[x] ∧ c = [.v x] := by
      cases x <;> simp [SV.cs, Value.cells] at hs ⊢ <;> exact hs.symm
    rw [e.2]
    have : v = x := by simpa [Rel] using hr
    subst this
    exact one _ _ e.1 hr
  | ptr i o => simp only [SV.cs, Option.some.injEq] at hs; subst hs; exact one _ _ (by simp only [Rel] at hr; rw [hr.2]; rfl) hr
  | slc i o l cp sz =>
    simp only [SV.cs, Option.some.injEq] at hs; subst hs
    refine one _ _ ?_ hr
    simp only [Rel] at hr
    rcases hr with ⟨_, _, h | ⟨_, _, h, _⟩⟩
    · rw [h.1]; rfl
    · rw [h]; rfl
  | fn f a b => simp only [SV.cs, Option.some.injEq] at hs; subst hs; refine one _ _ ?_ hr; simp only [Rel] at hr; obtain ⟨x, y, h, _⟩ := hr; rw [h]; rfl
  | mp i => simp only [SV.cs, Option.some.injEq] at hs; subst hs; exact one _ _ (by simp only [Rel] at hr; rw [hr.2]; rfl) hr
  | ifc t s => simp only [SV.cs, Option.some.injEq] at hs; subst hs; refine one _ _ ?_ hr; simp only [Rel] at hr; obtain ⟨x, h, _⟩ := hr; rw [h]; rfl
  | pix i o s ix c => simp only [SV.cs, Option.some.injEq] at hs; subst hs; exact one _ _ (by simp only [Rel] at hr; rw [hr.2]; rfl) hr

theorem foldl_set (vs : List Value) : ∀ (off j : Nat) (cs : Array Value), off + j + vs.length ≤ cs.size →
    (((vs.zipIdx j).foldl (fun cs (x : Value × Nat) => cs.setIfInBounds (off + x.2) x.1) cs).toList = putAt cs.toList (off + j) vs) := by
  induction vs with
  | nil => intro off j cs _; simp [putAt_nil]
  | cons x vs ih =>
    intro off j cs h
    simp only [List.length_cons] at h
    simp only [List.zipIdx_cons, List.foldl_cons]
    rw [ih off (j + 1) _ (by simp; omega), putAt_cons _ _ _ _ (by simp; omega), if_pos (by simp; omega)]
    simp [Nat.add_assoc]

/-- The machine's parts, read. -/
def PartsR (n : Nat) (ρ : Nat → Nat) (σ : Nat → Nat × Nat) : List (Nat × SV) → List (Nat × Value) → Prop
  | [], u => u = []
  | (i, s) :: l, u => ∃ v m, u = (i, v) :: m ∧ Rel n ρ σ s v ∧ PartsR n ρ σ l m

theorem evsN_sound {env : Env} {nt : Nat} {a : Act} (hE : EOK ds n ρ σ env nt a) : ∀ {ps : List (Nat × Operand)} {l : List (Nat × SV)}, evsN env ps = some l → PartsR n ρ σ l (ps.map fun (i, x) => (i, a.eval x))
  | [], l, h => by simp [evsN] at h; subst h; simp [PartsR]
  | (i, x) :: r, l, h => by
    simp only [evsN] at h
    split at h
    · rename_i s l' hs hl
      simp at h; subst h
      simp only [List.map_cons, PartsR]
      exact ⟨_, _, rfl, evo_sound hE hs, evsN_sound hE hl⟩
    · cases h

theorem fillS_sound {pl : Nat → Option (Nat × Nat)} : ∀ {parts : List (Nat × SV)} {vparts : List (Nat × Value)} {cells : List SV} {cs : Array Value} {c : List SV},
    PartsR n ρ σ parts vparts → RelL n ρ σ cells cs.toList → fillS pl cells parts = some c → ∃ r, Instr.fill pl cs vparts = some r ∧ RelL n ρ σ c r.toList
  | [], vparts, cells, cs, c, hp, hr, h => by
    simp only [PartsR] at hp; subst hp
    simp only [fillS, Option.some.injEq] at h; subst h
    exact ⟨cs, rfl, hr⟩
  | (i, s) :: l, vparts, cells, cs, c, hp, hr, h => by
    simp only [PartsR] at hp
    obtain ⟨v, m, rfl, hv, hm⟩ := hp
    simp only [fillS] at h
    split at h
    · rename_i off sz cc hpl hcs
      split at h
      · rename_i h1 h2
        have h1 := Nat.eq_of_beq_eq_true h1
        have h2 := Nat.le_of_ble_eq_true h2
        have hc := SV.cs_rel hcs hv
        have hlen := hc.length
        have hclen := hr.length
        simp at hlen hclen
        have hnot : ¬ (v.cells.size ≠ sz ∨ off + v.cells.size > cs.size) := by omega
        have hset := foldl_set v.cells.toList off 0 cs (by simp; omega)
        obtain ⟨r, hr1, hr2⟩ := fillS_sound (cs := (v.cells.zipIdx.foldl (fun cs (x : Value × Nat) => cs.setIfInBounds (off + x.2) x.1) cs)) hm (by
          have e : (v.cells.zipIdx.foldl (fun cs (x : Value × Nat) => cs.setIfInBounds (off + x.2) x.1) cs).toList = putAt cs.toList off v.cells.toList := by
            rw [Nat.add_zero] at hset
            rw [← hset, ← Array.foldl_toList, Array.toList_zipIdx]
          rw [e]; exact RelL.putAt off hr hc) h
        refine ⟨r, ?_, hr2⟩
        unfold Instr.fill
        simp only [hpl]
        rw [if_neg (by simpa using hnot)]
        exact hr1
      · cases h
    · cases h

theorem places_sound (w : World) : ∀ {fs : List Field} {pl : List (Nat × Nat)}, places P fs = some pl → (fs.mapM (fun f => do pure (f.offset, ← sizeOf f.type) : Field → Sem (Nat × Nat))).run P w = .ok pl w
  | [], pl, h => by simp [places] at h; subst h; rfl
  | f :: r, pl, h => by
    simp only [places] at h
    split at h
    · rename_i m l hm hl
      simp at h; subst h
      simp only [List.mapM_cons, Sem.run_bind, run_sizeT w hm, Result.andThen_ok, Sem.run_pure, places_sound w hl]
    · cases h

theorem run_zeroT {t : TypeId} {z : List Value} (h : zeroT P t = some z) (w : World) : ∃ v, (zeroValue t).run P w = .ok v w ∧ v.cells.toList = z := by
  unfold zeroT at h
  split at h
  · rename_i i hi
    split at h
    · rename_i v hv
      simp at h; subst h
      exact ⟨v, by simp [zeroValue, typeInfo, hi, hv], rfl⟩
    · cases h
  · cases h
theorem zeroT_val {t : TypeId} {z : List Value} (h : zeroT P t = some z) : ∃ v : Value, (∀ w, (zeroValue t).run P w = .ok v w) ∧ v.cells.toList = z := by
  unfold zeroT at h
  split at h
  · rename_i i hi
    split at h
    · rename_i v hv
      simp at h; subst h
      exact ⟨v, fun w => by simp [zeroValue, typeInfo, hi, hv], rfl⟩
    · cases h
  · cases h

theorem buildS_sound {t : TypeId} {parts : List (Nat × SV)} {vparts : Array (Nat × Value)} {K : SV → Prop} (hp : PartsR n ρ σ parts vparts.toList) (h : buildS P t parts K) :
    ∃ s v, K s ∧ Rel n ρ σ s v ∧ ∀ w, (Instr.build t vparts).run P w = .ok v w := by
  unfold buildS at h
  split at h
  · rename_i z fs hz hu
    obtain ⟨v, hv, rfl⟩ := zeroT_val hz
    split at h
    · rename_i pl hpl
      split at h
      · rename_i c hc
        have hpl' : ∀ i, nth pl i = pl.toArray[i]? := fun i => by rw [nth_eq]; simp
        obtain ⟨r, hr, hrel⟩ := fillS_sound hp (RelL.vs v.cells.toList) hc
        refine ⟨_, .agg r, h, by simp only [Rel]; exact ⟨_, rfl, hrel⟩, fun w => ?_⟩
        have e : (fun i => nth pl i) = (pl.toArray[·]?) := funext hpl'
        have hr' : Instr.fill (pl.toArray[·]?) v.cells vparts.toList = some r := by rw [← e]; exact hr
        unfold Instr.build
        simp only [Sem.run_bind, hv, Result.andThen_ok, run_und w hu]
        rw [← Array.toArray_toList (xs := fs), List.mapM_toArray]
        simp only [Sem.run_map, places_sound w hpl, Result.andThen_ok, hr', Sem.run_pure]
      · exact h.elim
    · exact h.elim
  · rename_i z len e hz hu
    obtain ⟨v, hv, rfl⟩ := zeroT_val hz
    split at h
    · rename_i sz hsz
      split at h
      · rename_i c hc
        obtain ⟨r, hr, hrel⟩ := fillS_sound hp (RelL.vs v.cells.toList) hc
        refine ⟨_, .agg r, h, by simp only [Rel]; exact ⟨_, rfl, hrel⟩, fun w => ?_⟩
        unfold Instr.build
        simp only [Sem.run_bind, hv, Result.andThen_ok, run_und w hu, run_sizeT w hsz, hr, Sem.run_pure]
      · exact h.elim
    · exact h.elim
  · exact h.elim

/-! ### len, cap, min, max -/
def lenS (P : Program) (t : TypeId) (a : SV) (K : SV → Prop) : Prop :=
  match a, P.underlying t with
  | .v (.string s), some .string => K (.v (.int .i64 s.size))
  | .slc _ _ len _ _, some (.slice _) => K (.v (.int .i64 len))
  | .v (.slice _ len _), some (.slice _) => K (.v (.int .i64 len))
  | _, some (.array len _) => K (.v (.int .i64 len))
  | _, _ => False
theorem lenS_sound {ts : Array TypeId} {ty t : TypeId} {a : SV} {va : Value} {K : SV → Prop} (ht : ts[0]? = some t) (ha : Rel n ρ σ a va) (h : lenS P t a K) :
    ∃ s v, K s ∧ Rel n ρ σ s v ∧ ∀ w, (Builtin.len_ ts ty #[va]).run P w = .ok v w := by
  unfold lenS at h
  split at h
  · rename_i hu; simp only [Rel] at ha; subst ha
    exact ⟨_, _, h, rfl, fun w => by simp [Builtin.len_, ht, run_und w hu, goInt]⟩
  · rename_i hu; simp only [Rel] at ha
    obtain ⟨_, _, ⟨rfl, rfl, _⟩ | ⟨o, c, rfl, _⟩⟩ := ha
    · exact ⟨_, _, h, rfl, fun w => by simp [Builtin.len_, ht, run_und w hu, goInt]⟩
    · exact ⟨_, _, h, rfl, fun w => by simp [Builtin.len_, ht, run_und w hu, goInt]⟩
  · rename_i hu; simp only [Rel] at ha; subst ha
    exact ⟨_, _, h, rfl, fun w => by simp [Builtin.len_, ht, run_und w hu, goInt]⟩
  · rename_i hu
    exact ⟨_, _, h, rfl, fun w => by simp [Builtin.len_, ht, run_und w hu, goInt]⟩
  · exact h.elim

def minS (f : Int → Int → Int) : List SV → (SV → Prop) → Prop
  | [.v (.int k x), .v (.int k' y)], K => match decide (k' = k) with
    | true => K (.v (.int k (f x y)))
    | false => False
  | [.v (.int k x), .v (.int k' y), .v (.int k'' z)], K => match decide (k' = k) && decide (k'' = k) with
    | true => K (.v (.int k (f (f x y) z)))
    | false => False
  | _, _ => False

end
end Go.Proofs.YtmnenigmkfnciaaGreatDoor.Sx
