/- Maps in the walk by computation. No condition. -/
import Derived.Test.YtmnenigmkfnciaaGreatDoorSx5
import Derived.MapKept
import Derived.ChangeKeysEq
namespace Go.Proofs.YtmnenigmkfnciaaGreatDoor.Sx
open Go
variable {ds : List Deferred}

/-! ### One of two -/
mutual
def mixS (b : Bool) (x y : SV) : SV :=
  match x, y with
  | .v (.int k p), .v (.int k' q) => match decide (k = k') with
    | true => .v (.int k (cond b p q))
    | false => match b with | true => .v (.int k p) | false => .v (.int k' q)
  | .v (.bool p), .v (.bool q) => .v (.bool (cond b p q))
  | .v (.string p), .v (.string q) => .v (.string (cond b p q))
  | .agg l, .agg m => .agg (mixL b l m)
  | x, y => match b with | true => x | false => y
def mixL (b : Bool) (l m : List SV) : List SV :=
  match l, m with
  | a :: l, c :: m => mixS b a c :: mixL b l m
  | [], [] => []
  | l, m => match b with | true => l | false => m
end
mutual
theorem mixS_t : ∀ x y : SV, mixS true x y = x
  | .v (.int k p), y => by
    unfold mixS; split <;> (try rfl)
    · split
      · simp_all
      · simp_all
    all_goals simp_all
  | .agg l, .agg m => by simp only [mixS]; rw [mixL_t l m]
  | .v (.bool p), y => by unfold mixS; split <;> simp_all
  | .v (.string p), y => by unfold mixS; split <;> simp_all
  | .v (.float _ _), y | .v (.complex _ _ _), y | .v (.pointer _), y | .v (.slice _ _ _), y | .v (.map _), y | .v (.chan _), y | .v (.func _ _ _), y | .v .nilFunc, y | .v (.iface _ _), y | .v .nilIface, y | .v (.agg _), y | .v (.tuple _), y => by unfold mixS; split <;> simp_all
  | .ptr _ _, y | .slc _ _ _ _ _, y | .ia _ _, y | .tup _, y | .fn _ _ _, y | .mp _, y | .ifc _ _, y | .pix _ _ _ _ _, y | .unk, y => by unfold mixS; split <;> simp_all
  | .agg l, .v y | .agg l, .ptr _ _ | .agg l, .slc _ _ _ _ _ | .agg l, .ia _ _ | .agg l, .tup _ | .agg l, .fn _ _ _ | .agg l, .mp _ | .agg l, .ifc _ _ | .agg l, .pix _ _ _ _ _ | .agg l, .unk => by simp [mixS]
theorem mixL_t : ∀ l m : List SV, mixL true l m = l
  | [], [] => by simp [mixL]
  | [], c :: m => by simp [mixL]
  | a :: l, [] => by simp [mixL]
  | a :: l, c :: m => by simp only [mixL]; rw [mixS_t a c, mixL_t l m]
end
mutual
theorem mixS_f : ∀ x y : SV, mixS false x y = y
  | .agg l, .agg m => by simp only [mixS]; rw [mixL_f l m]
  | .v x, y => by
    unfold mixS
    split <;> (try rfl)
    · split
      · rename_i hk; rw [of_decide_eq_true hk]; rfl
      · rfl
    · rename_i h1 h2; cases h2
  | .ptr _ _, y | .slc _ _ _ _ _, y | .ia _ _, y | .tup _, y | .fn _ _ _, y | .mp _, y | .ifc _ _, y | .pix _ _ _ _ _, y | .unk, y => by unfold mixS; split <;> simp_all
  | .agg l, .v y | .agg l, .ptr _ _ | .agg l, .slc _ _ _ _ _ | .agg l, .ia _ _ | .agg l, .tup _ | .agg l, .fn _ _ _ | .agg l, .mp _ | .agg l, .ifc _ _ | .agg l, .pix _ _ _ _ _ | .agg l, .unk => by simp [mixS]
theorem mixL_f : ∀ l m : List SV, mixL false l m = m
  | [], [] => by simp [mixL]
  | [], c :: m => by simp [mixL]
  | a :: l, [] => by simp [mixL]
  | a :: l, c :: m => by simp only [mixL]; rw [mixS_f a c, mixL_f l m]
end

/-! ### Keys -/
def hasI (l : List Int) (x : Int) : Bool := l.contains x
def hasS (l : List ByteArray) (x : ByteArray) : Bool := l.any fun y => seq y x
def insI (l : List Int) (x : Int) : List Int := match hasI l x with | true => l | false => l ++ [x]
def insS (l : List ByteArray) (x : ByteArray) : List ByteArray := match hasS l x with | true => l | false => l ++ [x]
def delI (l : List Int) (x : Int) : List Int := l.erase x
/-- A key, told by its kind. -/
inductive Ky where
  | i (k : IntKind) (x : Int)
  | s (x : ByteArray)
def Ky.val : Ky → Value
  | .i k x => .int k x
  | .s x => .string x
/-- The key of a symbolic value, if it fits the map's. -/
def kyOf (P : Program) (kt : TypeId) (ks : KS) (s : SV) : Option Ky := match P.underlying kt, ks, s with
  | some (.int _), .i k _, .v (.int k' x) => match decide (k = k') with
    | true => some (.i k x)
    | false => none
  | some .string, .s _, .v (.string x) => some (.s x)
  | some (.int _), .c k _ _, .v (.int k' x) => match decide (k = k') with
    | true => some (.i k x)
    | false => none
  | _, _, _ => none
def hasK : KS → Ky → Bool
  | .i _ l, .i _ x => hasI l x
  | .s l, .s x => hasS l x
  | .c _ us f, .i _ x => hasI us x && f x
  | _, _ => false
def insK : KS → Ky → KS
  | .i k l, .i _ x => .i k (insI l x)
  | .s l, .s x => .s (insS l x)
  | .c k us f, .i _ x => match hasI us x with
    | true => .c k us fun y => (y == x) || f y
    | false => .c k (us ++ [x]) fun y => (y == x) || (hasI us y && f y)
  | ks, _ => ks
def delK : KS → Ky → Option KS
  | .i k l, .i _ x => some (.i k (delI l x))
  | _, _ => none
def keq : Value → Value → Bool
  | .int k x, .int k' y => match decide (k = k') with
    | true => x == y
    | false => false
  | .string x, .string y => seq x y
  | _, _ => false
theorem hasI_iff {l : List Int} {x : Int} : hasI l x = true ↔ x ∈ l := by simp [hasI]
theorem hasS_iff {l : List ByteArray} {x : ByteArray} : hasS l x = true ↔ x ∈ l := by
  simp only [hasS, List.any_eq_true, seq_iff]
  constructor
  · rintro ⟨y, h, rfl⟩; exact h
  · intro h; exact ⟨x, h, rfl⟩
theorem keq_iff {a b : Value} (h : keq a b = true) : a = b := by
  unfold keq at h
  split at h
  · split at h
    · rename_i hk; rw [of_decide_eq_true hk, eq_of_beq h]
    · cases h
  · rw [(seq_iff _ _).1 h]
  · cases h
theorem keq_self (k : Ky) : keq k.val k.val = true := by
  cases k with
  | i k x => simp [keq, Ky.val]
  | s x => simp [keq, Ky.val, (seq_iff _ _).2]

/-- The key's kind fits the keys. -/
def fitK (d : TypeDesc) (ks : KS) (k : Ky) : Prop := match d, ks, k with
  | .int _, .i a _, .i b _ => a = b
  | .int _, .c a _ _, .i b _ => a = b
  | .string, .s _, .s _ => True
  | _, _, _ => False
theorem kyOf_fit {P : Program} {kt : TypeId} {ks : KS} {s : SV} {k : Ky} (h : kyOf P kt ks s = some k) : ∃ d, P.underlying kt = some d ∧ fitK d ks k ∧ s = .v k.val := by
  unfold kyOf at h
  split at h
  · rename_i q a l k' x hd
    split at h
    · rename_i hk
      have := of_decide_eq_true hk; subst this
      simp at h; subst h
      exact ⟨_, hd, rfl, rfl⟩
    · cases h
  · rename_i l x hd
    simp at h; subst h
    exact ⟨_, hd, trivial, rfl⟩
  · rename_i q a us f k' x hd
    split at h
    · rename_i hk
      have := of_decide_eq_true hk; subst this
      simp at h; subst h
      exact ⟨_, hd, rfl, rfl⟩
    · cases h
  · cases h
theorem fit_has {d : TypeDesc} {ks : KS} {k : Ky} {u : List Value} (hu : ks.Is u) (h : fitK d ks k) : hasK ks k = true ↔ k.val ∈ u := by
  unfold fitK at h
  split at h
  · subst h
    simp only [KS.Is] at hu
    subst hu
    simp only [hasK, hasI_iff, Ky.val, List.mem_map, Value.int.injEq, true_and, exists_eq_right]
  · subst h
    simp only [KS.Is] at hu
    simp only [hasK, Bool.and_eq_true, hasI_iff, Ky.val, hu, Value.int.injEq, true_and]
    constructor
    · rintro ⟨h1, h2⟩; exact ⟨_, h1, h2, rfl⟩
    · rintro ⟨x, h1, h2, rfl⟩; exact ⟨h1, h2⟩
  · simp only [KS.Is] at hu
    subst hu
    simp only [hasK, hasS_iff, KS.vals, Ky.val, List.mem_map, Value.string.injEq, exists_eq_right]
  · exact h.elim
theorem sameNow_fit {d : TypeDesc} {ks : KS} {k : Ky} (h : fitK d ks k) {v : Value} (hv : v ∈ ks.vals) : Instr.sameNow d k.val v = some (keq k.val v) := by
  unfold fitK at h
  split at h
  · subst h
    simp only [KS.vals, List.mem_map] at hv
    obtain ⟨y, _, rfl⟩ := hv
    simp [Instr.sameNow, Ky.val, keq]
  · subst h
    simp only [KS.vals, List.mem_map] at hv
    obtain ⟨y, _, rfl⟩ := hv
    simp [Instr.sameNow, Ky.val, keq]
  · simp only [KS.vals, List.mem_map] at hv
    obtain ⟨y, _, rfl⟩ := hv
    simp [Instr.sameNow, Ky.val, keq, seq_eq]
  · exact h.elim
theorem findNow_fit {d : TypeDesc} {ks : KS} {k : Ky} (h : fitK d ks k) : ∀ (es : List MapEntry) (i : Nat), (∀ e ∈ es, e.key ∈ ks.vals) →
    ((k.val ∉ es.map (·.key)) ∧ Instr.findNow d k.val es i = some none) ∨ (∃ j e, es[j]? = some e ∧ e.key = k.val ∧ Instr.findNow d k.val es i = some (some (i + j, e.val)))
  | [], i, _ => .inl ⟨by simp, rfl⟩
  | e :: es, i, hk => by
    have h1 := sameNow_fit h (hk e (by simp))
    unfold Instr.findNow
    rw [h1]
    cases hq : keq k.val e.key with
    | true => exact .inr ⟨0, e, rfl, (keq_iff hq).symm, rfl⟩
    | false =>
      have hne : k.val ≠ e.key := fun hx => by rw [← hx, keq_self] at hq; cases hq
      rcases findNow_fit h es (i + 1) (fun e he => hk e (by simp [he])) with ⟨h2, h3⟩ | ⟨j, e', h2, h3, h4⟩
      · exact .inl ⟨by simp only [List.map_cons, List.mem_cons, not_or]; exact ⟨hne, h2⟩, h3⟩
      · refine .inr ⟨j + 1, e', by simpa using h2, h3, ?_⟩
        simp only [h4]
        rw [show i + 1 + j = i + (j + 1) by omega]

section
variable {P : Program} {n : Nat} {ρ : Nat → Nat} {σ : Nat → Nat × Nat} {ks : KS} {g : Value → SV} {pl : Bool}
theorem run_findKey_fit {kt : TypeId} {d : TypeDesc} (hd : P.underlying kt = some d) {k : Ky} {l : List MapEntry} {r : Option (Nat × Value)} (h : Instr.findNow d k.val l 0 = some r) (w : World) : (Instr.findKey kt k.val l).run P w = .ok r w := by
  unfold Instr.findKey
  rw [Sem.run_bind, run_und w hd, Result.andThen_ok, h]
  rfl
theorem run_checkKey_fit {kt : TypeId} {d : TypeDesc} (hd : P.underlying kt = some d) {k : Ky} (hk : fitK d ks k) (b : Bool) (w : World) : (Instr.checkKey b 10000 kt k.val).run P w = .ok () w := by
  unfold Instr.checkKey
  rw [Sem.run_bind, run_und w hd, Result.andThen_ok]
  unfold fitK at hk
  split at hk
  · simp
  · simp
  · simp
  · exact hk.elim
/-- The zero of a type, told. -/
def zeroS (P : Program) (t : TypeId) : Option SV := match P.info? t with
  | some i => match i.zero with
    | some (.agg cs) => some (.agg (cs.toList.map .v))
    | some v => some (.v v)
    | none => none
  | none => none
theorem refsL_vs (j : Nat) : ∀ l : List Value, SV.refsL j (l.map .v) = false
  | [] => rfl
  | a :: l => by simp [SV.refsL, SV.refs, refsL_vs j l]
theorem zeroS_val {t : TypeId} {z : SV} (h : zeroS P t = some z) : ∃ v, (∀ w, (zeroValue t).run P w = .ok v w) ∧ Rel n ρ σ z v ∧ ∀ j, z.refs j = false := by
  unfold zeroS at h
  split at h
  · rename_i i hi
    have hrun : ∀ v, i.zero = some v → ∀ w, (zeroValue t).run P w = .ok v w := fun v hv w => by
      unfold zeroValue
      simp [typeInfo, hi, hv]
    split at h
    · rename_i cs hz
      simp only [Option.some.injEq] at h; subst h
      exact ⟨_, hrun _ hz, by simp only [Rel]; exact ⟨cs, rfl, RelL.vs _⟩, fun j => by simp only [SV.refs]; exact refsL_vs j _⟩
    · rename_i v _ hz
      simp only [Option.some.injEq] at h; subst h
      exact ⟨_, hrun _ hz, rfl, fun j => rfl⟩
    · cases h
  · cases h
theorem Rel.mix {b : Bool} {x y : SV} {u : Value} (h1 : b = true → Rel n ρ σ x u) (h2 : b = false → Rel n ρ σ y u) : Rel n ρ σ (mixS b x y) u := by
  cases b with
  | true => rw [mixS_t]; exact h1 rfl
  | false => rw [mixS_f]; exact h2 rfl
theorem refs_mix {b : Bool} {x y : SV} {j : Nat} (h1 : b = true → x.refs j = false) (h2 : b = false → y.refs j = false) : (mixS b x y).refs j = false := by
  cases b with
  | true => rw [mixS_t]; exact h1 rfl
  | false => rw [mixS_f]; exact h2 rfl

/-- What is found: of a few keys, of which it is not told whether they are there, a slice or none. -/
def lookC (tbl : List Blk) (ks : KS) (y : Ky) (x z : SV) (K : SV → Prop) : Prop :=
  match ks with
  | .c _ _ _ => match x, z with
    | .slc i o l c s, .v (.slice none 0 0) => match Nat.ble (i + 1) tbl.length with
      | true => K (.slc i o (cond (hasK ks y) l 0) (cond (hasK ks y) c 0) s)
      | false => False
    | _, _ => K (mixS (hasK ks y) x z)
  | _ => K (mixS (hasK ks y) x z)
theorem lookC_sound {tbl : List Blk} {y : Ky} {x z : SV} {K : SV → Prop} {v : Value} (h : lookC tbl ks y x z K) (h1 : hasK ks y = true → Rel tbl.length ρ σ x v) (h2 : hasK ks y = false → Rel tbl.length ρ σ z v) : ∃ s, K s ∧ Rel tbl.length ρ σ s v := by
  unfold lookC at h
  split at h
  · split at h
    · split at h
      · rename_i hb
        refine ⟨_, h, ?_⟩
        generalize hasK _ y = q at h1 h2 ⊢
        cases q with
        | true => exact h1 rfl
        | false =>
          have := h2 rfl
          simp only [Rel] at this ⊢
          exact ⟨Nat.le_of_ble_eq_true hb, Nat.le_refl _, .inl ⟨this, by trivial⟩⟩
      · exact h.elim
    · exact ⟨_, h, Rel.mix h1 h2⟩
  · exact ⟨_, h, Rel.mix h1 h2⟩
/-- A look into a map: the value, is it there? -/
def lookS (P : Program) (tbl : List Blk) (mt : TypeId) (m k : SV) (ok : Bool) (K : SV → Prop) : Prop :=
  match P.underlying mt with
  | some (.map kt et) => match zeroS P et with
    | some z => match m with
      | .mp i => match nth tbl i with
        | some (.map _ _ ks g) => match kyOf P kt ks k with
          | some y => match ok with
            | true => K (.tup [mixS (hasK ks y) (g y.val) z, .v (.bool (hasK ks y))])
            | false => lookC tbl ks y (g y.val) z K
          | none => False
        | _ => False
      | _ => False
    | none => False
  | _ => False
theorem run_getObjM {w : World} {r : Nat} {es : Array MapEntry} {clock : Nat} (hr : w.heap[r]? = some (.map es clock)) : (getObj r).run P w = .ok (.map es clock) w := by simp [getObj, Sem.run, hr]
theorem run_setObjM {w : World} {r : Nat} {es : Array MapEntry} {clock : Nat} (o : Obj) (hr : w.heap[r]? = some (.map es clock)) : (setObj r o).run P w = .ok () { w with heap := w.heap.setIfInBounds r o } := by simp [setObj, Sem.run, hr]
theorem run_lookup_fit {mt kt et : TypeId} {d : TypeDesc} (hm : P.underlying mt = some (.map kt et)) (hd : P.underlying kt = some d) {k : Ky} (hk : fitK d ks k) {z : Value} (hz : ∀ w, (zeroValue et).run P w = .ok z w)
    {o : Obj} (ho : MapIs n ρ σ pl ks g o) (ok : Bool) :
    ∃ v, (hasK ks k = true → Rel n ρ σ (g k.val) v) ∧ (hasK ks k = false → v = z) ∧ ∀ (w : World) (r : Nat), w.heap[r]? = some o → (Instr.lookup mt (.map (some r)) k.val ok).run P w = .ok (if ok then .tuple #[v, .bool (hasK ks k)] else v) w := by
  obtain ⟨es, clock, rfl, h2, h3, h4, h5⟩ := ho
  have hall : ∀ e ∈ es.toList, e.key ∈ ks.vals := fun e he => h2.mem (List.mem_map_of_mem he)
  rcases findNow_fit hk es.toList 0 hall with ⟨h6, h7⟩ | ⟨j, e, h6, h7, h8⟩
  · have hn : hasK ks k = false := by
      cases hh : hasK ks k with
      | false => rfl
      | true => exact absurd ((fit_has h2 hk).1 hh) h6
    refine ⟨z, fun h => absurd (hn.symm.trans h) (by decide), fun _ => rfl, fun w r hr => ?_⟩
    unfold Instr.lookup
    simp only [Sem.run_bind, run_und w hm, Result.andThen_ok, run_getObjM hr, Sem.run_pure, run_checkKey_fit hd hk, run_findKey_fit hd h7, hz, hn]
  · have he := List.mem_of_getElem? h6
    have hy : hasK ks k = true := (fit_has h2 hk).2 (by rw [← h7]; exact List.mem_map_of_mem he)
    refine ⟨e.val, fun _ => by rw [← h7]; exact h4 e he, fun h => absurd (hy.symm.trans h) (by decide), fun w r hr => ?_⟩
    unfold Instr.lookup
    simp only [Sem.run_bind, run_und w hm, Result.andThen_ok, run_getObjM hr, Sem.run_pure, run_checkKey_fit hd hk, run_findKey_fit hd h8, hy]
theorem lookS_sound {tbl : List Blk} {B : Base} {w1 : World} {mt : TypeId} {m k : SV} {vm vk : Value} {ok : Bool} {K : SV → Prop} (hT : TOK ρ σ B tbl w1) (hm : Rel tbl.length ρ σ m vm) (hk : Rel tbl.length ρ σ k vk) (h : lookS P tbl mt m k ok K) :
    ∃ s v, K s ∧ Rel tbl.length ρ σ s v ∧ ∀ w, Fr [] w1 w → (Instr.lookup mt vm vk ok).run P w = .ok v w := by
  unfold lookS at h
  split at h
  · rename_i kt et hmt
    split at h
    · rename_i z hz
      obtain ⟨zv, hz1, hz2, _⟩ := zeroS_val (n := tbl.length) (ρ := ρ) (σ := σ) hz
      split at h
      · rename_i i
        simp only [Rel] at hm
        obtain ⟨hi, rfl⟩ := hm
        split at h
        · rename_i wr pl ks g hb
          rw [nth_eq] at hb
          split at h
          · rename_i y hy
            obtain ⟨d, hd, hfit, rfl⟩ := kyOf_fit hy
            simp only [Rel] at hk
            subst hk
            obtain ⟨o, ho1, ho2⟩ := hT.mok.is i _ hb rfl
            obtain ⟨v, g1, g2, g3⟩ := run_lookup_fit (P := P) (z := zv) hmt hd hfit hz1 ho2 ok
            have hrel : Rel tbl.length ρ σ (mixS (hasK ks y) (g y.val) z) v := Rel.mix g1 (fun hn => by rw [g2 hn]; exact hz2)
            have same := fun w (hw : Fr [] w1 w) => g3 w (ρ i) (by rw [hw.blocks (hT.mlt hb rfl)]; exact ho1)
            cases ok with
            | true => exact ⟨_, _, h, by simp only [Rel, RelL]; exact ⟨_, rfl, _, _, rfl, hrel, _, _, rfl, rfl, rfl⟩, same⟩
            | false =>
              obtain ⟨s, hs1, hs2⟩ := lookC_sound (v := v) h g1 (fun hn => by rw [g2 hn]; exact hz2)
              exact ⟨_, _, hs1, hs2, same⟩
          · exact h.elim
        · exact h.elim
      · exact h.elim
    · exact h.elim
  · exact h.elim
theorem ins_is {d : TypeDesc} {ks : KS} {k : Ky} {u : List Value} (hk : fitK d ks k) (hu : ks.Is u) : (insK ks k).Is (if hasK ks k = true then u else u ++ [k.val]) := by
  unfold fitK at hk
  split at hk
  · subst hk
    rename_i l x
    simp only [KS.Is] at hu
    subst hu
    cases h1 : hasI l x with
    | true => simp [insK, insI, hasK, KS.Is, Ky.val, h1]
    | false => simp [insK, insI, hasK, KS.Is, Ky.val, h1]
  · subst hk
    rename_i us f x
    simp only [KS.Is] at hu
    cases h1 : hasI us x with
    | true =>
      cases h2 : f x with
      | true =>
        simp only [insK, hasK, Ky.val, h1, h2, Bool.true_and, if_true, KS.Is]
        intro v
        rw [hu]
        constructor
        · rintro ⟨y, g1, g2, g3⟩; exact ⟨y, g1, by simp [g2], g3⟩
        · rintro ⟨y, g1, g2, g3⟩
          simp only [Bool.or_eq_true, beq_iff_eq] at g2
          rcases g2 with rfl | g2
          · exact ⟨y, g1, h2, g3⟩
          · exact ⟨y, g1, g2, g3⟩
      | false =>
        simp only [insK, hasK, Ky.val, h1, h2, Bool.and_false, Bool.false_eq_true, if_false, KS.Is]
        intro v
        rw [List.mem_append, hu, List.mem_singleton]
        constructor
        · rintro (⟨y, g1, g2, g3⟩ | rfl)
          · exact ⟨y, g1, by simp [g2], g3⟩
          · exact ⟨x, hasI_iff.1 h1, by simp, rfl⟩
        · rintro ⟨y, g1, g2, g3⟩
          simp only [Bool.or_eq_true, beq_iff_eq] at g2
          rcases g2 with rfl | g2
          · exact .inr g3
          · exact .inl ⟨y, g1, g2, g3⟩
    | false =>
      simp only [insK, hasK, Ky.val, h1, Bool.false_and, Bool.false_eq_true, if_false, KS.Is]
      intro v
      rw [List.mem_append, hu, List.mem_singleton]
      constructor
      · rintro (⟨y, g1, g2, g3⟩ | rfl)
        · exact ⟨y, by simp [g1], by simp [g2, hasI_iff.2 g1], g3⟩
        · exact ⟨x, by simp, by simp, rfl⟩
      · rintro ⟨y, g1, g2, g3⟩
        simp only [Bool.or_eq_true, beq_iff_eq, Bool.and_eq_true] at g2
        rcases g2 with rfl | ⟨g2, g4⟩
        · exact .inr g3
        · exact .inl ⟨y, hasI_iff.1 g2, g4, g3⟩
  · rename_i l x
    simp only [KS.Is] at hu
    subst hu
    cases h1 : hasS l x with
    | true => simp [insK, insS, hasK, KS.Is, Ky.val, h1]
    | false => simp [insK, insS, hasK, KS.Is, Ky.val, h1]
  · exact hk.elim
/-- A map's object with a key's value laid. -/
theorem MapIs.put {o : Obj} {k : Ky} {d : TypeDesc} (hk : fitK d ks k) {kt mt et : TypeId} (hm : P.underlying mt = some (.map kt et)) (hd : P.underlying kt = some d) (ho : MapIs n ρ σ pl ks g o) {s : SV} {v : Value} (hv : Rel n ρ σ s v) (hp : pl = true → ∀ j, s.refs j = false) :
    ∃ o', MapIs n ρ σ pl (insK ks k) (fun y => mixS (keq k.val y) s (g y)) o' ∧ ∀ (w : World) (r : Nat), w.heap[r]? = some o → (Instr.mapUpdate mt (.map (some r)) k.val v).run P w = .ok () { w with heap := w.heap.setIfInBounds r o' } := by
  obtain ⟨es, clock, rfl, h2, h3, h4, h5, h5', h6'⟩ := ho
  have hall : ∀ e ∈ es.toList, e.key ∈ ks.vals := fun e he => h2.mem (List.mem_map_of_mem he)
  have hset : ∀ (w : World) (r : Nat) (o' : Obj), w.heap[r]? = some (.map es clock) → (setObj r o').run P w = .ok () { w with heap := w.heap.setIfInBounds r o' } := fun w r o' hr => run_setObjM o' hr
  have hplain : pl = true → ∀ y ∈ (insK ks k).vals, ∀ j, (mixS (keq k.val y) s (g y)).refs j = false := fun hpl y hy j => by
    refine refs_mix (fun _ => hp hpl j) (fun hq => h6' hpl y ?_ j)
    have : y ∈ ks.vals ∨ y = k.val := by
      unfold fitK at hk
      split at hk
      rotate_left 1
      · subst hk
        rename_i us f x
        cases h1 : hasI us x with
        | true => simp only [insK, h1, KS.vals, Ky.val] at hy ⊢; exact .inl hy
        | false =>
          simp only [insK, h1, KS.vals, Ky.val, List.map_append, List.mem_append, List.map_cons, List.map_nil, List.mem_singleton] at hy ⊢
          exact hy
      rotate_right 1
      · subst hk
        simp only [insK, insI, KS.vals, Ky.val, List.mem_map] at hy ⊢
        obtain ⟨x, hx, rfl⟩ := hy
        split at hx
        · exact .inl ⟨x, hx, rfl⟩
        · rcases List.mem_append.1 hx with hx | hx
          · exact .inl ⟨x, hx, rfl⟩
          · right; simp at hx; rw [hx]
      · simp only [insK, insS, KS.vals, Ky.val, List.mem_map] at hy ⊢
        obtain ⟨x, hx, rfl⟩ := hy
        split at hx
        · exact .inl ⟨x, hx, rfl⟩
        · rcases List.mem_append.1 hx with hx | hx
          · exact .inl ⟨x, hx, rfl⟩
          · right; simp at hx; rw [hx]
      · exact hk.elim
    rcases this with h | h
    · exact h
    · rw [h, keq_self] at hq; cases hq
  have hins := fun u (hu : ks.Is u) => ins_is hk hu
  have hrelOther : ∀ e : MapEntry, e.key ≠ k.val → Rel n ρ σ (g e.key) e.val → Rel n ρ σ (mixS (keq k.val e.key) s (g e.key)) e.val := fun e hne hr => by
    refine Rel.mix (fun hq => absurd (keq_iff hq).symm hne) (fun _ => hr)
  rcases findNow_fit hk es.toList 0 hall with ⟨h6, h7⟩ | ⟨j, e, h6, h7, h8⟩
  · have hn : ¬ hasK ks k = true := fun hh => h6 ((fit_has h2 hk).1 hh)
    have hins := hins _ h2
    rw [if_neg hn] at hins
    refine ⟨.map (es.push { key := k.val, val := v, born := clock }) (clock + 1), ⟨_, _, rfl, ?_, ?_, ?_, ?_, ?_, hplain⟩, fun w r hr => ?_⟩
    · simpa using hins
    · simp only [Array.toList_push, List.map_append, List.map_cons, List.map_nil]
      rw [List.nodup_append]
      refine ⟨h3, by simp, fun a ha b hb => ?_⟩
      simp at hb; subst hb
      intro hab; subst hab; exact h6 ha
    · intro x hx
      simp only [Array.toList_push, List.mem_append, List.mem_singleton] at hx
      rcases hx with hx | rfl
      · exact hrelOther x (fun he => h6 (by rw [← he]; exact List.mem_map_of_mem hx)) (h4 x hx)
      · show Rel n ρ σ (mixS (keq k.val k.val) s (g k.val)) v
        rw [keq_self, mixS_t]; exact hv
    · simp only [Array.toList_push, List.map_append, List.map_cons, List.map_nil]
      rw [List.pairwise_append]
      refine ⟨h5, by simp, fun a ha b hb => ?_⟩
      simp at hb; subst hb
      obtain ⟨x, hx, rfl⟩ := List.mem_map.1 ha
      exact h5' x hx
    · intro x hx
      simp only [Array.toList_push, List.mem_append, List.mem_singleton] at hx
      rcases hx with hx | rfl
      · have := h5' x hx; omega
      · show clock < clock + 1; omega
    · unfold Instr.mapUpdate
      simp only [Sem.run_bind, run_und w hm, Result.andThen_ok, run_getObjM hr, run_checkKey_fit hd hk, run_findKey_fit hd h7]
      exact hset w r _ hr
  · have he := List.mem_of_getElem? h6
    have hy : hasK ks k = true := (fit_has h2 hk).2 (by rw [← h7]; exact List.mem_map_of_mem he)
    have hins := hins _ h2
    rw [if_pos hy] at hins
    have hj : j < es.size := by have := (List.getElem?_eq_some_iff.1 h6).1; simpa using this
    have hmod : (es.modify j fun e => { e with key := k.val, val := v }).toList = es.toList.set j { e with key := k.val, val := v } := by
      have hej : es[j] = e := by
        have := (List.getElem?_eq_some_iff.1 h6).2
        simpa using this
      rw [Array.toList_modify]
      apply List.ext_getElem?
      intro i
      rw [List.getElem?_modify, List.getElem?_set]
      by_cases hij : j = i
      · subst hij
        simp [hj, hej]
      · simp [hij]
    have hkeys : (es.toList.set j { e with key := k.val, val := v }).map (·.key) = es.toList.map (·.key) := by
      rw [List.map_set]
      apply List.ext_getElem?
      intro i
      rw [List.getElem?_set]
      split
      · rename_i hij; subst hij
        rw [List.getElem?_map, h6]
        simp [hj, h7]
      · rfl
    have hborn : (es.toList.set j { e with key := k.val, val := v }).map (·.born) = es.toList.map (·.born) := by
      rw [List.map_set]
      apply List.ext_getElem?
      intro i
      rw [List.getElem?_set]
      split
      · rename_i hij; subst hij
        rw [List.getElem?_map, h6]
        simp [hj]
      · rfl
    refine ⟨.map (es.modify j fun e => { e with key := k.val, val := v }) clock, ⟨_, _, rfl, ?_, ?_, ?_, ?_, ?_, hplain⟩, fun w r hr => ?_⟩
    · rw [hmod, hkeys]; exact hins
    · rw [hmod, hkeys]; exact h3
    · intro x hx
      rw [hmod] at hx
      obtain ⟨i, hi⟩ := List.getElem?_of_mem hx
      rw [List.getElem?_set] at hi
      split at hi
      · split at hi
        · simp only [Option.some.injEq] at hi; subst hi
          show Rel n ρ σ (mixS (keq k.val k.val) s (g k.val)) v
          rw [keq_self, mixS_t]; exact hv
        · cases hi
      · rename_i hij
        refine hrelOther x (fun hx' => hij ?_) (h4 x (List.mem_of_getElem? hi))
        have hnd : (es.toList.map (·.key)).Nodup := h3
        have e1 : (es.toList.map (·.key))[i]? = some k.val := by rw [List.getElem?_map, hi]; simp [hx']
        have e2 : (es.toList.map (·.key))[j]? = some k.val := by rw [List.getElem?_map, h6]; simp [h7]
        exact (List.getElem?_inj (by simpa using hj) hnd).1 (by rw [e1, e2])
    · rw [hmod, hborn]; exact h5
    · intro x hx
      rw [hmod] at hx
      have : x.born ∈ es.toList.map (·.born) := by rw [← hborn]; exact List.mem_map_of_mem hx
      obtain ⟨x', hx', e1⟩ := List.mem_map.1 this
      rw [← e1]; exact h5' x' hx'
    · unfold Instr.mapUpdate
      have hkk : (es[0 + j]?.map (·.key)).getD k.val = k.val := by
        have : es[j]? = some e := by simpa using h6
        simp [this, h7]
      have hstay : Instr.keyThatStays k.val k.val = pure k.val := by
        unfold Instr.keyThatStays
        have : Instr.sameBits 10000 k.val k.val = true := by
          cases k with
          | i k x => simp [Instr.sameBits, Ky.val]
          | s x => simp only [Instr.sameBits, Ky.val]; rw [← seq_eq]; exact (seq_iff _ _).2 rfl
        rw [this]; rfl
      simp only [Sem.run_bind, run_und w hm, Result.andThen_ok, run_getObjM hr, run_checkKey_fit hd hk, run_findKey_fit hd h8, hkk, hstay, Sem.run_pure]
      rw [show 0 + j = j by omega]
      exact hset w r _ hr
theorem eraseIdx_map' {α β : Type} (f : α → β) : ∀ (l : List α) (j : Nat), (l.eraseIdx j).map f = (l.map f).eraseIdx j
  | [], j => by simp
  | a :: l, 0 => by simp
  | a :: l, j + 1 => by simp [eraseIdx_map' f l j]
theorem erase_idx : ∀ (l : List Int) (x : Int) (j : Nat), l.Nodup → l[j]? = some x → l.erase x = l.eraseIdx j
  | [], x, j, _, h => by simp at h
  | a :: l, x, 0, _, h => by simp at h; subst h; simp
  | a :: l, x, j + 1, hn, h => by
    simp at h
    have hx : x ∈ l := List.mem_of_getElem? h
    have hne : a ≠ x := by rintro rfl; exact (List.nodup_cons.1 hn).1 hx
    rw [List.erase_cons_tail (by simpa using hne), erase_idx l x j (List.nodup_cons.1 hn).2 h]; rfl
theorem nodup_ints {a : IntKind} : ∀ {l : List Int}, (l.map (Value.int a)).Nodup → l.Nodup
  | [], _ => by simp
  | x :: l, h => by
    simp only [List.map_cons, List.nodup_cons] at h ⊢
    exact ⟨fun hx => h.1 (List.mem_map_of_mem hx), nodup_ints h.2⟩
/-- A map's object with a key taken away. -/
theorem MapIs.del {o : Obj} {a : IntKind} {l : List Int} {x : Int} {q : IntKind} {kt mt et ty : TypeId} {ats : Array TypeId} (hat : ats[0]? = some mt) (hm : P.underlying mt = some (.map kt et)) (hd : P.underlying kt = some (.int q)) (ho : MapIs n ρ σ pl (.i a l) g o) :
    ∃ o', MapIs n ρ σ pl (.i a (delI l x)) g o' ∧ ∀ (w : World) (r : Nat), w.heap[r]? = some o → (Builtin.delete_ ats ty #[.map (some r), .int a x]).run P w = .ok (.tuple #[]) { w with heap := w.heap.setIfInBounds r o' } := by
  obtain ⟨es, clock, rfl, h2, h3, h4, h5, h5', h6'⟩ := ho
  have hk : fitK (.int q) (.i a l) (.i a x) := rfl
  have hall : ∀ e ∈ es.toList, e.key ∈ (KS.i a l).vals := fun e he => h2.mem (List.mem_map_of_mem he)
  have h2' : es.toList.map (·.key) = l.map (Value.int a) := h2
  have hnd : l.Nodup := nodup_ints (a := a) (by rw [← h2']; exact h3)
  have hplain : pl = true → ∀ y ∈ (KS.i a (delI l x)).vals, ∀ j, (g y).refs j = false := fun hp y hy j => by
    refine h6' hp y ?_ j
    simp only [KS.vals, delI, List.mem_map] at hy ⊢
    obtain ⟨z, hz, rfl⟩ := hy
    exact ⟨z, List.mem_of_mem_erase hz, rfl⟩
  rcases findNow_fit hk es.toList 0 hall with ⟨h6, h7⟩ | ⟨j, e, h6, h7, h8⟩
  · have hn : x ∉ l := fun hx => h6 (by rw [h2']; exact List.mem_map_of_mem hx)
    have e1 : delI l x = l := List.erase_of_not_mem hn
    refine ⟨.map es clock, ⟨es, clock, rfl, by rw [e1]; exact h2, h3, h4, h5, h5', hplain⟩, fun w r hr => ?_⟩
    have := run_findKey_fit (P := P) hd h7 w
    have hc := run_checkKey_fit (P := P) hd hk es.isEmpty w
    simp only [Ky.val] at this hc
    simp [Builtin.delete_, hat, run_und w hm, run_getObjM hr, hc, this, run_setObjM _ hr]
  · have hj : j < es.size := by have := (List.getElem?_eq_some_iff.1 h6).1; simpa using this
    have hlj : l[j]? = some x := by
      have : (es.toList.map (·.key))[j]? = some (.int a x) := by rw [List.getElem?_map, h6]; simp [h7, Ky.val]
      rw [h2'] at this
      simpa using this
    have hlist : (es.eraseIdxIfInBounds j).toList = es.toList.eraseIdx j := by
      simp [Array.eraseIdxIfInBounds, hj]
    refine ⟨.map (es.eraseIdxIfInBounds j) clock, ⟨_, _, rfl, ?_, ?_, ?_, ?_, ?_, hplain⟩, fun w r hr => ?_⟩
    · show _ = (delI l x).map (Value.int a)
      rw [hlist, eraseIdx_map', h2', delI, erase_idx l x j hnd hlj, eraseIdx_map']
    · rw [hlist, eraseIdx_map']
      exact h3.sublist (List.eraseIdx_sublist _ _)
    · intro y hy; rw [hlist] at hy; exact h4 y (List.mem_of_mem_eraseIdx hy)
    · rw [hlist, eraseIdx_map']; exact h5.sublist (List.eraseIdx_sublist _ _)
    · intro y hy; rw [hlist] at hy; exact h5' y (List.mem_of_mem_eraseIdx hy)
    · have := run_findKey_fit (P := P) hd h8 w
      have hc := run_checkKey_fit (P := P) hd hk es.isEmpty w
      simp only [Ky.val] at this hc
      simp [Builtin.delete_, hat, run_und w hm, run_getObjM hr, hc, this, run_setObjM _ hr]
/-- The map's block, turned. -/
theorem TOK.putMap {tbl : List Blk} {B : Base} {w : World} (hT : TOK ρ σ B tbl w) {i : Nat} {b c : Blk} {o o' : Obj} (hi : tbl[i]? = some b) (hw : b.mw = true) (ho : w.heap[ρ i]? = some o) (hcm : c.isMap = true) (hc : MapB tbl.length ρ σ c o') :
    TOK ρ σ B (tbl.set i c) { w with heap := w.heap.setIfInBounds (ρ i) o' } := by
  have hlt := (Array.getElem?_eq_some_iff.1 ho).1
  refine hT.butMap hi hw ⟨rfl, rfl, rfl, by simp, fun k hk => ?_⟩ hcm ⟨o', by simp [hlt], hc⟩
  simp [Ne.symm hk]
end

end Go.Proofs.YtmnenigmkfnciaaGreatDoor.Sx
