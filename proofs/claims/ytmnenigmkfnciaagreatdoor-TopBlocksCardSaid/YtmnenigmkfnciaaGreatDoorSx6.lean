/- The quiet operations of the walk by computation, all of them; a region of them, in whatever order. No condition. -/
import Derived.Test.YtmnenigmkfnciaaGreatDoorSxM
namespace Go.Proofs.YtmnenigmkfnciaaGreatDoor.Sx
open Go
variable {ds : List Deferred}

inductive Spec where
  | q (g : List SV → List Blk → (SV → Prop) → Prop)
  | x (g : List SV → (SV → Prop) → Prop)
  | m (g : List SV → List Blk → (SV → List Blk → List Nat → Prop) → Prop)
  | o
abbrev Specs := List (Nat × Spec)
def specOf : Specs → Nat → Option Spec
  | [], _ => none
  | (k, s) :: r, f => match Nat.beq k f with | true => some s | false => specOf r f

mutual
/-- The one value that is told, if there is no address in it. -/
def pvo : SV → Option Value
  | .v x => some x
  | .ia k l => some (.agg (l.map (Value.int k)).toArray)
  | .agg l => match pvoL l with
    | some r => some (.agg r.toArray)
    | none => none
  | .tup l => match pvoL l with
    | some r => some (.tuple r.toArray)
    | none => none
  | _ => none
def pvoL : List SV → Option (List Value)
  | [] => some []
  | a :: l => match pvo a, pvoL l with
    | some x, some r => some (x :: r)
    | _, _ => none
end
mutual
theorem pvo_rel {n : Nat} {ρ : Nat → Nat} {σ : Nat → Nat × Nat} : ∀ (s : SV) (x u : Value), pvo s = some x → (Rel n ρ σ s u ↔ u = x)
  | .v y, x, u, h => by simp [pvo] at h; subst h; simp [Rel]
  | .ia k l, x, u, h => by simp [pvo] at h; subst h; simp [Rel]
  | .agg l, x, u, h => by
    simp only [pvo] at h
    split at h
    · rename_i r hr
      simp at h; subst h
      simp only [Rel]
      constructor
      · rintro ⟨cs, rfl, h⟩; rw [pvoL_rel l r _ hr] at h; rw [← h]
      · rintro rfl; exact ⟨_, rfl, by simpa using (pvoL_rel l r r hr).2 rfl⟩
    · cases h
  | .tup l, x, u, h => by
    simp only [pvo] at h
    split at h
    · rename_i r hr
      simp at h; subst h
      simp only [Rel]
      constructor
      · rintro ⟨cs, rfl, h⟩; rw [pvoL_rel l r _ hr] at h; rw [← h]
      · rintro rfl; exact ⟨_, rfl, by simpa using (pvoL_rel l r r hr).2 rfl⟩
    · cases h
  | .ptr _ _, x, u, h => by simp [pvo] at h
  | .slc _ _ _ _ _, x, u, h => by simp [pvo] at h
  | .fn _ _ _, x, u, h => by simp [pvo] at h
  | .mp _, x, u, h => by simp [pvo] at h
  | .ifc _ _, x, u, h => by simp [pvo] at h
  | .pix _ _ _ _ _, x, u, h => by simp [pvo] at h
  | .unk, x, u, h => by simp [pvo] at h
theorem pvoL_rel {n : Nat} {ρ : Nat → Nat} {σ : Nat → Nat × Nat} : ∀ (s : List SV) (x u : List Value), pvoL s = some x → (RelL n ρ σ s u ↔ u = x)
  | [], x, u, h => by simp [pvoL] at h; subst h; simp [RelL]
  | a :: l, x, u, h => by
    simp only [pvoL] at h
    split at h
    · rename_i y r hy hr
      simp at h; subst h
      simp only [RelL]
      constructor
      · rintro ⟨b, m, rfl, h1, h2⟩
        rw [(pvo_rel a y b hy).1 h1, (pvoL_rel l r m hr).1 h2]
      · rintro rfl
        exact ⟨y, r, rfl, (pvo_rel a y y hy).2 rfl, (pvoL_rel l r r hr).2 rfl⟩
    · cases h
end

def Enters (P : Program) (f : FuncId) : Prop := ∀ args w, (callFunc f args).run P w = .ok (.enter f args) w
def SpecOK (P : Program) (f : FuncId) : Spec → Prop
  | .q g => Enters P f ∧ ∀ args blks K, g args blks K → ∃ s, (pvo s).isSome = true ∧ K s ∧ FnOK P f args blks fun s' t m => s' = s ∧ t = blks ∧ m = []
  | .x g => ∀ n ρ σ args (as : Array Value) K, RelL n ρ σ args as.toList → g args K → ∃ s v, K s ∧ Rel n ρ σ s v ∧ ∀ w, (callFunc f as).run P w = .ok (.value v) w
  | .m g => Enters P f ∧ ∀ args blks K, g args blks K → FnOK P f args blks K
  | .o => ∀ (a b : Option Addr) (la ca lb cb : Nat) (w : World), (∀ x, a = some x → 0 < la → (∃ cs T fr, w.heap[x.block]? = some (.cells cs T fr)) ∧ w.frozen? x = false) →
      (∀ x, b = some x → 0 < lb → (∃ cs T fr, w.heap[x.block]? = some (.cells cs T fr)) ∧ w.frozen? x = false) → ∃ r d, (callFunc f #[.slice a la ca, .slice b lb cb]).run P w = .ok (.value (.bool r)) { w with drawn := d }
def SpecsOK (P : Program) (S : Specs) : Prop := ∀ f s, specOf S f = some s → SpecOK P f s

theorem SpecsOK.nil {P : Program} : SpecsOK P [] := fun f s h => by simp [specOf] at h
theorem SpecsOK.cons {P : Program} {S : Specs} {f : FuncId} {s : Spec} (h : SpecOK P f s) (h' : SpecsOK P S) : SpecsOK P ((f, s) :: S) := fun f' s' hs => by
  simp only [specOf] at hs
  split at hs
  · rename_i hf
    have := Nat.eq_of_beq_eq_true hf; subst this
    simp at hs; subst hs; exact h
  · exact h' f' s' hs

def evs (env : Env) : List Operand → Option (List SV)
  | [] => some []
  | x :: r => match evo env x, evs env r with
    | some s, some l => some (s :: l)
    | _, _ => none
theorem evs_sound {n : Nat} {ρ : Nat → Nat} {σ : Nat → Nat × Nat} {env : Env} {nt : Nat} {a : Act} (hE : EOK ds n ρ σ env nt a) : ∀ {ps : List Operand} {l : List SV}, evs env ps = some l → RelL n ρ σ l (ps.map a.eval)
  | [], l, h => by simp [evs] at h; subst h; simp [RelL]
  | x :: r, l, h => by
    simp only [evs] at h
    split at h
    · rename_i s l' hs hl
      simp at h; subst h
      simp only [List.map_cons, RelL]
      exact ⟨_, _, rfl, evo_sound hE hs, evs_sound hE hl⟩
    · cases h

/-- The method of a value in an interface. -/
def invT (P : Program) (t : TypeId) (name : String) : Option FuncId := match P.info? t with
  | some i => match i.methods.find? (·.name == name) with
    | some m => match m.path.isEmpty, m.func, P.underlying t with
      | true, some (f, false), some u => match u with
        | .pointer _ => none
        | _ => some f
      | _, _, _ => none
    | none => none
  | none => none
theorem invT_spec {P : Program} {t : TypeId} {name : String} {f : FuncId} (h : invT P t name = some f) : ∃ i m u, P.info? t = some i ∧ i.methods.find? (·.name == name) = some m ∧ m.path = #[] ∧ m.func = some (f, false) ∧ P.underlying t = some u ∧ ∀ e, u ≠ .pointer e := by
  unfold invT at h
  split at h
  · rename_i i hi
    split at h
    · rename_i m hm
      split at h
      · rename_i f' u hp hf hu
        split at h
        · cases h
        · rename_i hnp
          simp only [Option.some.injEq] at h; subst h
          exact ⟨i, m, u, hi, hm, by simpa using hp, hf, hu, fun e he => hnp e he⟩
      · cases h
    · cases h
  · cases h
theorem depth_succ (n : Nat) : n + Made.depth = n + (Made.depth - 1) + 1 := by
  have : 0 < Made.depth := by decide
  omega
theorem run_typeInfo' {P : Program} {t : TypeId} {i : TypeInfo} (h : P.info? t = some i) (w : World) : (typeInfo t).run P w = .ok i w := by simp [typeInfo, h]
theorem run_method {P : Program} {t : TypeId} {name : String} {f : FuncId} (h : invT P t name = some f) (n : Nat) (v : Value) (w : World) : (method (n + 1) t v name).run P w = .ok (f, v) w := by
  obtain ⟨i, m, u, h1, h2, h3, h4, h5, h6⟩ := invT_spec h
  unfold method
  simp only [Sem.run_bind, run_typeInfo' h1, Result.andThen_ok, h2, h3, follow, Sem.run_pure, h4]
  unfold receiverAt
  simp only [Sem.run_bind, run_und w h5, Result.andThen_ok]
  cases u <;> simp_all [Place.get]
theorem run_nilAhead {P : Program} {t : TypeId} {name : String} {f : FuncId} (h : invT P t name = some f) (n : Nat) (v : Value) (w : World) : (nilAhead (n + 1) t v name).run P w = .ok (some false) w := by
  obtain ⟨i, m, u, h1, h2, h3, h4, h5, h6⟩ := invT_spec h
  unfold nilAhead
  simp only [Sem.run_bind, run_typeInfo' h1, Result.andThen_ok, h2, h3, followBlind, Sem.run_pure, h4, run_und w h5]
  cases u <;> simp_all

/-- The callee, and all its arguments. -/
def calleeS (P : Program) (env : Env) (c : Call) (K : FuncId → List SV → Prop) : Prop :=
  match c.callee with
  | .value x => match evo env x, evs env c.args.toList with
    | some (.fn (.func f) a b), some l => K f (a ++ (l ++ b))
    | _, _ => False
  | .invoke x name => match evo env x, evs env c.args.toList with
    | some (.ifc t s), some l => match invT P t name with
      | some f => K f (s :: l)
      | none => False
    | _, _ => False
  | _ => False
theorem calleeS_sound {P : Program} {n : Nat} {ρ : Nat → Nat} {σ : Nat → Nat × Nat} {env : Env} {nt : Nat} {a : Act} (hE : EOK ds n ρ σ env nt a) {c : Call} {o : Oper} (ho : o.op = .call c) {K : FuncId → List SV → Prop} (h : calleeS P env c K) :
    ∃ f l as, K f l ∧ RelL n ρ σ l as.toList ∧ ∀ w, (execOp a.eval o).run P w = (callFunc f as).run P w := by
  unfold calleeS at h
  split at h
  · rename_i x hx
    split at h
    · rename_i f fa fb l hf hl
      have h1 := evo_sound hE hf
      simp only [Rel] at h1
      obtain ⟨va, vb, h1, h2, h3⟩ := h1
      have h4 := evs_sound hE hl
      refine ⟨f, _, va ++ (c.args.map a.eval) ++ vb, h, ?_, fun w => ?_⟩
      · simp only [Array.toList_append, Array.toList_map, List.append_assoc]
        exact h2.append (h4.append h3)
      · simp [execOp, ho, resolve, hx, h1, Deferred.ofValue, invoke]
    · exact h.elim
  · rename_i x name hx
    split at h
    · rename_i t s l hf hl
      split at h
      · rename_i f hi
        have h1 := evo_sound hE hf
        simp only [Rel] at h1
        obtain ⟨v, h1, h2⟩ := h1
        have h4 := evs_sound hE hl
        refine ⟨f, _, #[v] ++ (c.args.map a.eval), h, ?_, fun w => ?_⟩
        · simp only [Array.toList_append, Array.toList_map, RelL]
          exact ⟨v, _, rfl, h2, h4⟩
        · have e : (#[Value.iface t v] ++ c.args.map a.eval).extract 1 (#[Value.iface t v] ++ c.args.map a.eval).size = c.args.map a.eval := by
            apply Array.ext'
            simp
            rw [List.take_of_length_le]
            simp
          obtain ⟨k, hk⟩ : ∃ k, P.types.size + Made.depth = k + 1 := ⟨P.types.size + (Made.depth - 1), depth_succ _⟩
          simp only [execOp, ho, resolve, hx, h1, Sem.run_bind, Sem.run_pure, Result.andThen_ok, invoke]
          have e0 : (#[Value.iface t v] ++ c.args.map a.eval)[0]? = some (.iface t v) := by
            rw [Array.getElem?_append_left (Nat.zero_lt_one)]; rfl
          simp only [e0, callMethod, Sem.run_bind, run_program, Result.andThen_ok, e]
          rw [hk, run_method hi]
          rfl
      · exact h.elim
    · exact h.elim
  · exact h.elim

def callQ (P : Program) (S : Specs) (env : Env) (tbl : List Blk) (c : Call) (K : SV → Prop) : Prop :=
  calleeS P env c fun f l => match specOf S f with
    | some (.x g) => g (normL l) K
    | some (.q g) => match okJs tbl l (seen tbl l), pick tbl (pos (seen tbl l)) (seen tbl l) with
      | true, some bs => g (normL (SV.renL (pos (seen tbl l)) l)) (normB (bs.map Blk.ro)) K
      | _, _ => False
    | _ => False

/-- 'c' is a built-in that only looks. -/
def builtinQ (P : Program) (env : Env) (tbl : List Blk) (c : Call) (b : Builtin) (K : SV → Prop) : Prop :=
  match b, evs env c.args.toList with
  | .len, some [s] => match c.argTypes[0]? with
    | some t => match s with
      | .mp i => match nth tbl i, P.underlying t with
        | some (.map _ _ ks _), some (.map _ _) => match ks.len with
          | some n => K (.v (.int .i64 n))
          | none => False
        | _, _ => False
      | s => lenS P t s K
    | none => False
  | .real, some [.v (.complex k re _)] => K (.v (.float k re))
  | .cap, some [.slc _ _ _ cp _] => match c.argTypes[0]? with
    | some t => match P.underlying t with
      | some (.slice _) => ∀ q : Nat, cp ≤ q → K (.v (.int .i64 q))
      | _ => False
    | none => False
  | .min, some l => minS mn l K
  | .max, some l => minS mx l K
  | _, _ => False

def pickS (t : Bool) (a b : Option SV) (K : SV → Prop) : Prop :=
  match a, b with
  | some (.v (.bool x)), some (.v (.bool y)) => K (.v (.bool (cond t x y)))
  | some x, some y => bc t (K x) (K y)
  | _, _ => False

/-- One quiet operation. -/
def qop (P : Program) (S : Specs) (env : Env) (tbl : List Blk) (o : Op) (K : SV → Prop) : Prop :=
  match o with
  | .move x => ev env x K
  | .assign x => ev env x K
  | .pick c a b => ev env c fun sc => match sc with
    | .v (.bool t) => pickS t (evo env a) (evo env b) K
    | _ => False
  | .binOp op t x y _ => ev env x fun sx => ev env y fun sy => binS P op t sx sy K
  | .unOp op _ x => ev env x fun s => unS op s K
  | .convert src dst x => ev env x fun s => convS P tbl src dst s K
  | .field t x i => ev env x fun s => fieldS P t i s K
  | .index t x ix => ev env x fun s => ev env ix fun i => indexS P t s i K
  | .extract x i => ev env x fun s => match s with
    | .tup l => match nth l i with
      | some s => K s
      | none => False
    | _ => False
  | .build t parts => match evsN env parts.toList with
    | some l => buildS P t l K
    | none => False
  | .fieldAddr t x i => ev env x fun s => fieldAddrS P t s i K
  | .indexAddr t x ix => ev env x fun s => ev env ix fun i => indexAddrS P t s i K
  | .slice t x lo hi m => ev env x fun s => bnd env lo fun l => bnd env hi fun h => bnd env m fun m => sliceS P tbl t s l h m K
  | .load t x => ev env x fun s => loadP P tbl t s K
  | .nilCheck x => ev env x fun s => match s with
    | .ptr i off => K (.ptr i off)
    | .pix i off s ix c => K (.pix i off s ix c)
    | .fn (.func f) a b => K (.fn (.func f) a b)
    | .fn (.method name) [.ifc t s] b => match invT P t name with
      | some _ => K (.fn (.method name) [.ifc t s] b)
      | none => False
    | _ => False
  | .makeFunc f first cap => match evs env first.toList, evs env cap.toList with
    | some a, some b => K (.fn f a b)
    | _, _ => False
  | .makeInterface t x => ev env x fun s => match P.underlying t with
    | some u => match u with
      | .interface _ => False
      | _ => K (.ifc t s)
    | none => False
  | .lookup t m k ok => ev env m fun sm => ev env k fun sk => lookS P tbl t sm sk ok K
  | .call c => match c.callee with
    | .builtin b => builtinQ P env tbl c b K
    | _ => callQ P S env tbl c K
  | _ => False

section
variable {P : Program} {ρ : Nat → Nat} {σ : Nat → Nat × Nat} {B : Base} {tbl : List Blk} {w1 : World} {S : Specs} {env : Env} {nt : Nat} {a : Act}

/-- In every world of the class: this value, and the class is not left. -/
def Yl (P : Program) (w1 : World) (a : Act) (o : Oper) (v : Value) : Prop := ∀ w, Fr [] w1 w → o.quietAt P a (Fr [] w1) w v

theorem Yl.of_run {o : Oper} {v : Value} (h : ∀ w, Fr [] w1 w → (execOp a.eval o).run P w = .ok (.value v) w) : Yl P w1 a o v := fun w hw => by
  unfold Oper.quietAt; rw [h w hw]; exact ⟨rfl, rfl⟩

theorem bnd_sound {n : Nat} (hE : EOK ds n ρ σ env nt a) {x : Option Operand} {f : Option Int → Prop} (h : bnd env x f) : ∃ i, f i ∧ BndR (x.map a.eval) i := by
  unfold bnd at h
  split at h
  · exact ⟨none, h, trivial⟩
  · rename_i x
    split at h
    · rename_i k i hx
      have := evo_sound hE hx
      simp only [Rel] at this
      exact ⟨_, h, k, by simp [this]⟩
    · exact h.elim

theorem minS_sound {n : Nat} {f : Int → Int → Int} {l : List SV} {us : List Value} {K : SV → Prop} (hr : RelL n ρ σ l us) (h : minS f l K) (m2 : Value → Value → Sem Value) (hm : ∀ k x y w, (m2 (.int k x) (.int k y)).run P w = .ok (.int k (f x y)) w) :
    ∃ s v x rest, us = x :: rest ∧ K s ∧ Rel n ρ σ s v ∧ ∀ w, (rest.foldlM m2 x).run P w = .ok v w := by
  unfold minS at h
  split at h
  · simp only [RelL, Rel] at hr
    obtain ⟨_, _, rfl, rfl, _, _, rfl, rfl, rfl⟩ := hr
    split at h
    · rename_i hk
      have := of_decide_eq_true hk; subst this
      exact ⟨_, _, _, _, rfl, h, rfl, fun w => by simp [hm]⟩
    · exact h.elim
  · simp only [RelL, Rel] at hr
    obtain ⟨_, _, rfl, rfl, _, _, rfl, rfl, _, _, rfl, rfl, rfl⟩ := hr
    split at h
    · rename_i hk
      simp at hk
      obtain ⟨rfl, rfl⟩ := hk
      exact ⟨_, _, _, _, rfl, h, rfl, fun w => by simp [hm]⟩
    · exact h.elim
  · exact h.elim

theorem builtinQ_sound (hE : EOK ds tbl.length ρ σ env nt a) (hT : TOK ρ σ B tbl w1) {o : Oper} {c : Call} {b : Builtin} {K : SV → Prop} (ho : o.op = .call c) (hc : c.callee = .builtin b) (h : builtinQ P env tbl c b K) :
    ∃ s v, K s ∧ Rel tbl.length ρ σ s v ∧ Yl P w1 a o v := by
  unfold builtinQ at h
  have key : ∀ (x : Sem Value) (v : Value), (∀ w, x.run P w = .ok v w) → (∀ w, (execOp a.eval o).run P w = (do pure (.value (← x)) : Sem Next).run P w) → Yl P w1 a o v := fun x v h1 h2 => by
    refine Yl.of_run fun w _ => ?_
    rw [h2, Sem.run_bind, h1]; rfl
  split at h
  · rename_i s hl
    have hr := evs_sound hE hl
    simp only [RelL] at hr
    obtain ⟨va, _, h1, h2, rfl⟩ := hr
    have e : c.args.map a.eval = #[va] := by apply Array.ext'; simpa using h1
    split at h
    · rename_i t ht
      split at h
      · rename_i i
        split at h
        · rename_i wr pl ks g kt et hb hu
          rw [nth_eq] at hb
          simp only [Rel] at h2
          obtain ⟨hi, rfl⟩ := h2
          obtain ⟨ob, ho1, es, clock, rfl, hks, _⟩ := hT.mok.is i _ hb rfl
          split at h
          case h_2 => exact h.elim
          rename_i n hkn
          have hsz : es.size = n := by
            have := hks.len hkn
            simpa using this
          refine ⟨_, _, h, rfl, Yl.of_run fun w hw => ?_⟩
          have hr : w.heap[ρ i]? = some (.map es clock) := by rw [hw.blocks (hT.mlt hb rfl)]; exact ho1
          simp [execOp, ho, resolve, hc, invoke, builtin, e, Builtin.len_, ht, run_und w hu, run_getObjM hr, goInt, hsz]
        · exact h.elim
      · obtain ⟨s', v, hK, hv, hrun⟩ := lenS_sound (P := P) (ty := o.type) (ts := c.argTypes) ht h2 h
        refine ⟨s', v, hK, hv, key _ v hrun fun w => ?_⟩
        simp [execOp, ho, resolve, hc, invoke, builtin, e]
    · exact h.elim
  · rename_i k re im hl
    have hr := evs_sound hE hl
    simp only [RelL, Rel] at hr
    obtain ⟨va, _, h1, rfl, rfl⟩ := hr
    have e : c.args.map a.eval = #[.complex k re im] := by apply Array.ext'; simpa using h1
    refine ⟨_, _, h, rfl, Yl.of_run fun w _ => ?_⟩
    have hre : Builtin.real_ c.argTypes o.type #[.complex k re im] = pure (.float k re) := rfl
    simp [execOp, ho, resolve, hc, invoke, builtin, e, hre]
  · rename_i i off len cp sz hl
    have hr := evs_sound hE hl
    simp only [RelL, Rel] at hr
    obtain ⟨va, _, h1, ⟨_, _, h2⟩, rfl⟩ := hr
    have e : c.args.map a.eval = #[va] := by apply Array.ext'; simpa using h1
    split at h
    · rename_i t ht
      split at h
      · rename_i el hu
        rcases h2 with ⟨rfl, _, hcp⟩ | ⟨o1, c1, rfl, hcp, _⟩
        · refine ⟨_, _, h 0 (by omega), rfl, key (Builtin.cap_ c.argTypes o.type #[.slice none 0 0]) _ (fun w => ?_) fun w => ?_⟩
          · simp [Builtin.cap_, ht, run_underlying hu, goInt]
          · simp [execOp, ho, resolve, hc, invoke, builtin, e]
        · refine ⟨_, _, h c1 hcp, rfl, key (Builtin.cap_ c.argTypes o.type #[.slice (some ⟨ρ i, (σ i).2 + o1, none⟩) len c1]) _ (fun w => ?_) fun w => ?_⟩
          · simp [Builtin.cap_, ht, run_underlying hu, goInt]
          · simp [execOp, ho, resolve, hc, invoke, builtin, e]
      · exact h.elim
    · exact h.elim
  · rename_i l hl
    have hr := evs_sound hE hl
    obtain ⟨s, v, x, rest, h1, hK, hv, hrun⟩ := minS_sound (P := P) hr h Builtin.min2 (fun k x y w => by simp [Builtin.min2, mn])
    refine ⟨s, v, hK, hv, key (Builtin.min_ c.argTypes o.type (c.args.map a.eval)) v (fun w => ?_) fun w => ?_⟩
    · have e : (c.args.map a.eval).toList = x :: rest := by simpa using h1
      simp only [Builtin.min_, e]; exact hrun w
    · simp [execOp, ho, resolve, hc, invoke, builtin]
  · rename_i l hl
    have hr := evs_sound hE hl
    obtain ⟨s, v, x, rest, h1, hK, hv, hrun⟩ := minS_sound (P := P) hr h Builtin.max2 (fun k x y w => by simp [Builtin.max2, mx])
    refine ⟨s, v, hK, hv, key (Builtin.max_ c.argTypes o.type (c.args.map a.eval)) v (fun w => ?_) fun w => ?_⟩
    · have e : (c.args.map a.eval).toList = x :: rest := by simpa using h1
      simp only [Builtin.max_, e]; exact hrun w
    · simp [execOp, ho, resolve, hc, invoke, builtin]
  · exact h.elim

theorem callQ_sound (hE : EOK ds tbl.length ρ σ env nt a) (hT : TOK ρ σ B tbl w1) (hS : SpecsOK P S) {o : Oper} {c : Call} {K : SV → Prop} (ho : o.op = .call c) (h : callQ P S env tbl c K) :
    ∃ s v, K s ∧ Rel tbl.length ρ σ s v ∧ Yl P w1 a o v := by
  unfold callQ at h
  obtain ⟨f, l, as, h, hr, hx⟩ := calleeS_sound (P := P) hE ho h
  split at h
  · rename_i g hg
    obtain ⟨s, v, hK, hv, hrun⟩ := hS f _ hg _ ρ σ (normL l) as K hr.norm h
    exact ⟨s, v, hK, hv, Yl.of_run fun w _ => by rw [hx, hrun]⟩
  · rename_i g hg
    generalize seen tbl l = js at h
    split at h
    · rename_i bs hj hb
      obtain ⟨hent, hspec⟩ := hS f _ hg
      obtain ⟨s, hpv, hK, hf⟩ := hspec _ _ K h
      obtain ⟨v, hv⟩ := Option.isSome_iff_exists.1 hpv
      refine ⟨s, v, hK, (pvo_rel s v v hv).2 rfl, fun w hw => ?_⟩
      unfold Oper.quietAt
      rw [hx, hent as w]
      refine ⟨rfl, ?_⟩
      have hTw := hT.still hw
      have hTc := (hTw.callee hj hb).toRo rfl
      have hac := RelL.callee hj hb hr
      rw [← List.length_map (f := Blk.ro)] at hac
      refine (hf.normed _ _ _ as w hac hTc).mono ?_
      rintro e w' ⟨s', v', t', mv, ρ', σ', rfl, hrel, _, _, hT', rfl, rfl, rfl⟩
      rw [(pvo_rel s' v v' hv).1 hrel]
      exact ⟨rfl, hw.call hT'.fr (by simp)⟩
    · exact h.elim
  · exact h.elim

theorem run_val {o : Oper} {x : Sem Value} {v : Value} (hx : ∀ w, Fr [] w1 w → x.run P w = .ok v w) (he : execOp a.eval o = (do pure (.value (← x)) : Sem Next)) : Yl P w1 a o v :=
  Yl.of_run fun w hw => by rw [he, Sem.run_bind, hx w hw]; rfl

theorem qop_sound (hE : EOK ds tbl.length ρ σ env nt a) (hT : TOK ρ σ B tbl w1) (hS : SpecsOK P S) {o : Oper} {K : SV → Prop} (h : qop P S env tbl o.op K) :
    ∃ s v, K s ∧ Rel tbl.length ρ σ s v ∧ Yl P w1 a o v := by
  unfold qop at h
  split at h <;> rename_i ho
  · obtain ⟨s, hs, hK⟩ := ev_spec h
    exact ⟨s, _, hK, evo_sound hE hs, Yl.of_run fun w _ => by simp [execOp, ho]⟩
  · obtain ⟨s, hs, hK⟩ := ev_spec h
    exact ⟨s, _, hK, evo_sound hE hs, Yl.of_run fun w _ => by simp [execOp, ho]⟩
  · rename_i c x y
    obtain ⟨s, hs, h⟩ := ev_spec h
    have hc := evo_sound hE hs
    split at h
    · rename_i t
      simp only [Rel] at hc
      have hrun : ∀ w, (execOp a.eval o).run P w = .ok (.value (if t then a.eval x else a.eval y)) w := fun w => by simp [execOp, ho, hc, asBool]
      unfold pickS at h
      split at h
      · rename_i p q hp hq
        have hp := evo_sound hE hp
        have hq := evo_sound hE hq
        simp only [Rel] at hp hq
        refine ⟨_, _, h, rfl, Yl.of_run fun w _ => ?_⟩
        rw [hrun, hp, hq]; cases t <;> rfl
      · rename_i p q _ hp hq
        have hp := evo_sound hE hp
        have hq := evo_sound hE hq
        cases t
        · exact ⟨q, _, h, hq, Yl.of_run fun w _ => hrun w⟩
        · exact ⟨p, _, h, hp, Yl.of_run fun w _ => hrun w⟩
      · exact h.elim
    · exact h.elim
  · rename_i op t x y yt
    obtain ⟨sx, hx, h⟩ := ev_spec h
    obtain ⟨sy, hy, h⟩ := ev_spec h
    obtain ⟨s, v, hK, hv, hrun⟩ := binS_sound (P := P) (evo_sound hE hx) (evo_sound hE hy) x y h
    exact ⟨s, v, hK, hv, run_val (fun w _ => hrun w) (by simp [execOp, ho])⟩
  · obtain ⟨sx, hx, h⟩ := ev_spec h
    obtain ⟨s, v, hK, hv, hrun⟩ := unS_sound (P := P) (evo_sound hE hx) h
    exact ⟨s, v, hK, hv, run_val (fun w _ => hrun w) (by simp [execOp, ho])⟩
  · obtain ⟨sx, hx, h⟩ := ev_spec h
    obtain ⟨s, v, hK, hv, hrun⟩ := convS_sound (P := P) hT (evo_sound hE hx) h
    exact ⟨s, v, hK, hv, run_val hrun (by simp [execOp, ho])⟩
  · obtain ⟨sx, hx, h⟩ := ev_spec h
    obtain ⟨s, v, hK, hv, hrun⟩ := fieldS_sound (P := P) (evo_sound hE hx) h
    exact ⟨s, v, hK, hv, run_val (fun w _ => hrun w) (by simp [execOp, ho])⟩
  · obtain ⟨sx, hx, h⟩ := ev_spec h
    obtain ⟨sy, hy, h⟩ := ev_spec h
    obtain ⟨s, v, hK, hv, hrun⟩ := indexS_sound (P := P) (evo_sound hE hx) (evo_sound hE hy) h
    exact ⟨s, v, hK, hv, run_val (fun w _ => hrun w) (by simp [execOp, ho])⟩
  · rename_i x ix
    obtain ⟨sx, hx, h⟩ := ev_spec h
    have hr := evo_sound hE hx
    split at h
    · split at h
      · rename_i s hs
        rw [nth_eq] at hs
        simp only [Rel] at hr
        obtain ⟨cs, h1, h2⟩ := hr
        obtain ⟨v, hv1, hv2⟩ := RelL.get h2 hs
        refine ⟨s, v, h, hv2, run_val (x := Instr.extract (a.eval x) ix) (fun w _ => ?_) (by simp [execOp, ho])⟩
        have : cs[ix]? = some v := by simpa using hv1
        simp [Instr.extract, h1, this]
      · exact h.elim
    · exact h.elim
  · split at h
    · rename_i l hl
      have hp := evsN_sound hE hl
      obtain ⟨s, v, hK, hv, hrun⟩ := buildS_sound (P := P) (vparts := (_ : Array _).map fun (i, x) => (i, a.eval x)) (by simpa using hp) h
      exact ⟨s, v, hK, hv, run_val (fun w _ => hrun w) (by simp [execOp, ho])⟩
    · exact h.elim
  · obtain ⟨sx, hx, h⟩ := ev_spec h
    obtain ⟨s, v, hK, hv, hrun⟩ := fieldAddrS_sound (P := P) (evo_sound hE hx) h
    exact ⟨s, v, hK, hv, run_val (fun w _ => hrun w) (by simp [execOp, ho])⟩
  · obtain ⟨sx, hx, h⟩ := ev_spec h
    obtain ⟨sy, hy, h⟩ := ev_spec h
    obtain ⟨s, v, hK, hv, hrun⟩ := indexAddrS_sound (P := P) (evo_sound hE hx) (evo_sound hE hy) h
    exact ⟨s, v, hK, hv, run_val (fun w _ => hrun w) (by simp [execOp, ho])⟩
  · obtain ⟨sx, hx, h⟩ := ev_spec h
    obtain ⟨l, h, hl⟩ := bnd_sound hE h
    obtain ⟨hh, h, hhi⟩ := bnd_sound hE h
    obtain ⟨m, h, hm⟩ := bnd_sound hE h
    obtain ⟨s, v, hK, hv, hrun⟩ := sliceS_sound (P := P) (fun h1 h2 => hT.pre h1 h2) hl hhi hm (evo_sound hE hx) h
    exact ⟨s, v, hK, hv, run_val (fun w _ => hrun w) (by simp [execOp, ho])⟩
  · rename_i t x
    obtain ⟨sx, hx, h⟩ := ev_spec h
    have hr := evo_sound hE hx
    obtain ⟨s, v, ad, hp, hK, hv, hrun⟩ := loadP_sound (P := P) hT hr h
    exact ⟨s, v, hK, hv, run_val (x := Instr.loadAt t (a.eval x)) (fun w hw => by simp [Instr.loadAt, hp, Instr.sureAddr, hrun w hw]) (by simp [execOp, ho])⟩
  · obtain ⟨sx, hx, h⟩ := ev_spec h
    have hr := evo_sound hE hx
    split at h
    · have hr' := hr
      simp only [Rel] at hr'
      exact ⟨_, _, h, hr, Yl.of_run fun w _ => by simp [execOp, ho, hr'.2]⟩
    · have hr' := hr
      simp only [Rel] at hr'
      exact ⟨_, _, h, hr, Yl.of_run fun w _ => by simp [execOp, ho, hr'.2]⟩
    · have hr' := hr
      simp only [Rel] at hr'
      obtain ⟨x, y, h1, _⟩ := hr'
      exact ⟨_, _, h, hr, Yl.of_run fun w _ => by simp [execOp, ho, h1]⟩
    · rename_i name t s b
      split at h
      · rename_i f hi
        have hr' := hr
        simp only [Rel, RelL] at hr'
        obtain ⟨x, y, h1, ⟨u, m, h2, ⟨v, rfl, _⟩, rfl⟩, _⟩ := hr'
        have hx0 : x[0]? = some (.iface t v) := by
          have : x.toList[0]? = some (.iface t v) := by rw [h2]; rfl
          simpa using this
        obtain ⟨k, hk⟩ : ∃ k, P.types.size + Made.depth = k + 1 := ⟨P.types.size + (Made.depth - 1), depth_succ _⟩
        refine ⟨_, _, h, hr, Yl.of_run fun w _ => ?_⟩
        simp only [execOp, ho, h1, hx0, Sem.run_bind, run_program, Result.andThen_ok]
        rw [hk, run_nilAhead hi]
        rfl
      · exact h.elim
    · exact h.elim
  · rename_i f first cap
    split at h
    · rename_i l1 l2 h1 h2
      refine ⟨_, .func f (first.map a.eval) (cap.map a.eval), h, ?_, run_val (x := Instr.makeFunc f (first.map a.eval) (cap.map a.eval)) (fun w _ => ?_) (by simp [execOp, ho])⟩
      · simp only [Rel]
        exact ⟨_, _, rfl, by simpa using evs_sound hE h1, by simpa using evs_sound hE h2⟩
      · simp [Instr.makeFunc]
    · exact h.elim
  · rename_i t x
    obtain ⟨sx, hx, h⟩ := ev_spec h
    have hr := evo_sound hE hx
    split at h
    · rename_i u hu
      split at h
      · exact h.elim
      · rename_i hni
        refine ⟨_, .iface t (a.eval x), h, by simp only [Rel]; exact ⟨_, rfl, hr⟩, run_val (x := Instr.makeInterface t (a.eval x)) (fun w _ => ?_) (by simp [execOp, ho])⟩
        unfold Instr.makeInterface
        simp only [Sem.run_bind, run_und w hu, Result.andThen_ok]
        rfl
    · exact h.elim
  · rename_i t m k ok
    obtain ⟨sm, hm, h⟩ := ev_spec h
    obtain ⟨sk, hk, h⟩ := ev_spec h
    obtain ⟨s, v, hK, hv, hrun⟩ := lookS_sound (P := P) hT (evo_sound hE hm) (evo_sound hE hk) h
    exact ⟨s, v, hK, hv, run_val hrun (by simp [execOp, ho])⟩
  · rename_i c
    split at h
    · rename_i b hc
      exact builtinQ_sound hE hT ho hc h
    · exact callQ_sound hE hT hS ho h
  · exact h.elim

end
end Go.Proofs.YtmnenigmkfnciaaGreatDoor.Sx
