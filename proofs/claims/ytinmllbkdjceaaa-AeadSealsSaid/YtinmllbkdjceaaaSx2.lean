/- The quiet operations of the walk by computation: they only read. No condition. -/
import Derived.Test.YtinmllbkdjceaaaSx1
namespace Go.Proofs.Ytinmllbkdjceaaa.Sx
open Go

/-- A Bool that may be known: two ways. -/
def bc (b : Bool) (p q : Prop) : Prop := match b with | true => p | false => q
/-- A Bool that must be true. -/
def ob (b : Bool) (p : Prop) : Prop := match b with | true => p | false => False
theorem ob_iff {b : Bool} {p : Prop} : ob b p ↔ b = true ∧ p := by cases b <;> simp [ob]
theorem ob_mk {b : Bool} {p : Prop} (h : b = true) (hp : p) : ob b p := ob_iff.2 ⟨h, hp⟩
theorem bc_iff {b : Bool} {p q : Prop} : bc b p q ↔ (b = true → p) ∧ (b = false → q) := by cases b <;> simp [bc]
theorem bc_mk {b : Bool} {p q : Prop} (h : b = true → p) (h' : b = false → q) : bc b p q := bc_iff.2 ⟨h, h'⟩

abbrev Env := List (Nat × SV)
def look : Env → Nat → Option SV
  | [], _ => none
  | (k, s) :: r, t => match Nat.beq k t with | true => some s | false => look r t
def nth {α : Type} : List α → Nat → Option α
  | [], _ => none
  | a :: _, 0 => some a
  | _ :: l, i + 1 => nth l i
theorem nth_eq {α : Type} : ∀ (l : List α) (i : Nat), nth l i = l[i]?
  | [], i => by simp [nth]
  | a :: l, 0 => by simp [nth]
  | a :: l, i + 1 => by simp [nth, nth_eq l i]

/-- The frame holds what the environment says. -/
structure EOK (n : Nat) (ρ σ : Nat → Nat) (env : Env) (nt : Nat) (a : Act) : Prop where
  size : a.tmps.size = nt
  defers : a.defers = []
  get : ∀ t s, look env t = some s → Rel n ρ σ s (a.tmps.getD t undef)

theorem EOK.ext {n n' : Nat} {ρ σ ρ' σ' : Nat → Nat} {env : Env} {nt : Nat} {a : Act} (h : EOK n ρ σ env nt a) (hn : n ≤ n') (hr : ∀ i, i < n → ρ' i = ρ i ∧ σ' i = σ i) : EOK n' ρ' σ' env nt a :=
  ⟨h.size, h.defers, fun t s hs => (h.get t s hs).ext hn hr⟩

theorem EOK.put {n : Nat} {ρ σ : Nat → Nat} {env : Env} {nt : Nat} {a : Act} (h : EOK n ρ σ env nt a) {d : Nat} (hd : d < nt) {s : SV} {v : Value} (hs : Rel n ρ σ s v) : EOK n ρ σ ((d, s) :: env) nt (a.put (some d) v) := by
  refine ⟨by simp [Act.put, h.size], by simp [Act.put, h.defers], fun t s' ht => ?_⟩
  simp only [look] at ht
  by_cases e : d = t
  · subst e
    simp at ht; subst ht
    have hd' : d < a.tmps.size := by rw [h.size]; exact hd
    simpa [Act.put, hd'] using hs
  · have : Nat.beq d t = false := by cases hb : Nat.beq d t with | false => rfl | true => exact absurd (Nat.eq_of_beq_eq_true hb) e
    rw [this] at ht
    have := h.get t s' ht
    simpa [Act.put, e, Array.getElem?_setIfInBounds] using this

def evo (env : Env) : Operand → Option SV
  | .tmp t => look env t
  | .const v => some (.v v)
  | .func f => some (.fn f [] [])
  | .global _ => none
def ev (env : Env) (x : Operand) (f : SV → Prop) : Prop := match evo env x with | some s => f s | none => False
theorem ev_spec {env : Env} {x : Operand} {f : SV → Prop} (h : ev env x f) : ∃ s, evo env x = some s ∧ f s := by
  unfold ev at h; split at h
  · exact ⟨_, by assumption, h⟩
  · exact h.elim
theorem evo_sound {n : Nat} {ρ σ : Nat → Nat} {env : Env} {nt : Nat} {a : Act} (h : EOK n ρ σ env nt a) {x : Operand} {s : SV} (hx : evo env x = some s) : Rel n ρ σ s (a.eval x) := by
  cases x with
  | tmp t => exact h.get t s hx
  | const v => simp only [evo, Option.some.injEq] at hx; subst hx; simp [Rel, Act.eval]
  | func f => simp only [evo, Option.some.injEq] at hx; subst hx; simp only [Rel, Act.eval]; exact ⟨#[], #[], rfl, by simp [RelL], by simp [RelL]⟩
  | global g => simp [evo] at hx

/-! ### Numbers -/
def iand (k : IntKind) (x y : Int) : Int := k.wrap ((BitVec.ofInt k.bits x &&& BitVec.ofInt k.bits y).toNat)
def ior (k : IntKind) (x y : Int) : Int := k.wrap ((BitVec.ofInt k.bits x ||| BitVec.ofInt k.bits y).toNat)
def ixor (k : IntKind) (x y : Int) : Int := k.wrap ((BitVec.ofInt k.bits x ^^^ BitVec.ofInt k.bits y).toNat)
def iandn (k : IntKind) (x y : Int) : Int := k.wrap ((BitVec.ofInt k.bits x &&& ~~~ BitVec.ofInt k.bits y).toNat)
def ishl (k : IntKind) (x y : Int) : Int := k.wrap (x * 2 ^ (min y.toNat k.bits))
def ishr (k : IntKind) (x y : Int) : Int := x.fdiv (2 ^ (min y.toNat k.bits))
def seq (x y : ByteArray) : Bool := x.toList == y.toList
def bt (s : ByteArray) (i : Int) : Int := ((s.data.toList.getD i.toNat 0).toNat : Int)
def mn (x y : Int) : Int := if y < x then y else x
def mx (x y : Int) : Int := if y > x then y else x
def bstr (l : List Int) : ByteArray := ⟨(l.map fun n => UInt8.ofNat n.toNat).toArray⟩

def undT (P : Program) (t : TypeId) : Option TypeDesc := P.underlying t
def isAggT (P : Program) (t : TypeId) : Option Bool := match P.underlying t with
  | some (.struct _) => some true
  | some (.array _ _) => some true
  | some _ => some false
  | none => none
def sizeT (P : Program) (t : TypeId) : Option Nat := match P.info? t with
  | some i => some i.size
  | none => none

section runs
variable {P : Program} (w : World)
theorem run_und {t : TypeId} {d : TypeDesc} (h : P.underlying t = some d) : (underlying t).run P w = .ok d w := run_underlying h w
theorem run_sizeT {t : TypeId} {n : Nat} (h : sizeT P t = some n) : (sizeOf t).run P w = .ok n w := by
  unfold sizeT at h
  split at h
  · rename_i i hi; simp at h; subst h; simp [sizeOf, typeInfo, hi]
  · cases h
theorem run_isAggT {t : TypeId} {b : Bool} (h : isAggT P t = some b) : (isAgg t).run P w = .ok b w := by
  unfold isAggT at h
  unfold isAgg
  rw [Sem.run_bind]
  split at h <;> simp at h <;> subst h
  · rename_i d hd; rw [run_und w hd]; simp
  · rename_i d e hd; rw [run_und w hd]; simp
  · rename_i d h1 h2 hd
    rw [run_und w hd]
    cases d <;> simp_all
end runs

/-! ### Operations on two values -/
def intB (op : BinOp) (k : IntKind) (x y : Int) (K : SV → Prop) : Prop :=
  match op with
  | .add => K (.v (.int k (k.wrap (x + y))))
  | .sub => K (.v (.int k (k.wrap (x - y))))
  | .mul => K (.v (.int k (k.wrap (x * y))))
  | .quo => ob (!decide (y = 0)) (K (.v (.int k (k.wrap (x.tdiv y)))))
  | .rem => ob (!decide (y = 0)) (K (.v (.int k (x.tmod y))))
  | .and => K (.v (.int k (iand k x y)))
  | .or => K (.v (.int k (ior k x y)))
  | .xor => K (.v (.int k (ixor k x y)))
  | .andNot => K (.v (.int k (iandn k x y)))
  | .eql => K (.v (.bool (x == y)))
  | .neq => K (.v (.bool (x != y)))
  | .lss => K (.v (.bool (decide (x < y))))
  | .leq => K (.v (.bool (decide (x ≤ y))))
  | .gtr => K (.v (.bool (decide (x > y))))
  | .geq => K (.v (.bool (decide (x ≥ y))))
  | _ => False
def strB (op : BinOp) (x y : ByteArray) (K : SV → Prop) : Prop :=
  match op with
  | .add => ob (decide (x.size + y.size ≤ 9223372036854775807)) (K (.v (.string (x ++ y))))
  | .eql => K (.v (.bool (seq x y)))
  | .neq => K (.v (.bool (!seq x y)))
  | .lss => K (.v (.bool (Op.bytesLess x.toList y.toList)))
  | .leq => K (.v (.bool (Op.bytesLess x.toList y.toList || seq x y)))
  | .gtr => K (.v (.bool (!(Op.bytesLess x.toList y.toList || seq x y))))
  | .geq => K (.v (.bool (!Op.bytesLess x.toList y.toList)))
  | _ => False

/-- The cells that a type's value has, if all of them are plain and all count: so many. -/
def flatT (P : Program) : Nat → TypeId → Option Nat
  | 0, _ => none
  | d + 1, t => match P.underlying t with
    | some (.int _) => some 1
    | some .bool => some 1
    | some .string => some 1
    | some (.array len e) => match flatT P d e, sizeT P e with
      | some n, some s => match Nat.beq n s with | true => some (len * n) | false => none
      | _, _ => none
    | some (.struct fs) => match P.stoodInHeld t with
      | true => none
      | false => flatF P d fs.toList 0
    | _ => none
where flatF (P : Program) (d : Nat) : List Field → Nat → Option Nat
  | [], o => some o
  | f :: r, o => match decide (f.name = "_"), Nat.beq f.offset o, flatT P d f.type, sizeT P f.type with
    | false, true, some n, some s => match Nat.beq n s with | true => flatF P d r (o + n) | false => none
    | _, _, _, _ => none

def binS (P : Program) (op : BinOp) (t : TypeId) (a b : SV) (K : SV → Prop) : Prop :=
  match a, b with
  | .v (.int k x), .v (.int k' y) =>
    match op with
    | .shl => ob (decide (0 ≤ y)) (K (.v (.int k (ishl k x y))))
    | .shr => ob (decide (0 ≤ y)) (K (.v (.int k (ishr k x y))))
    | _ => match decide (k = k') with
      | true => intB op k x y K
      | false => False
  | .v (.string x), .v (.string y) => strB op x y K
  | .v (.bool x), .v (.bool y) => match P.underlying t with
    | some .bool => match op with
      | .eql => K (.v (.bool (x == y)))
      | .neq => K (.v (.bool (!(x == y))))
      | _ => False
    | _ => False
  | .v (.pointer none), .v (.pointer none) => match P.underlying t with
    | some (.pointer _) => match op with
      | .eql => K (.v (.bool true))
      | .neq => K (.v (.bool false))
      | _ => False
    | _ => False
  | .ptr _ _, .v (.pointer none) => match P.underlying t with
    | some (.pointer _) => match op with
      | .eql => K (.v (.bool false))
      | .neq => K (.v (.bool true))
      | _ => False
    | _ => False
  | .ia k l, .ia k' l' => match P.underlying t with
    | some (.array n e) => match P.underlying e, P.info? e, Nat.beq (P.cellsOf e) 1 && decide (k = k'), P.eqGuardType P.depth t with
      | some (.int _), some _, true, false => ob (decide (l.length = n) && decide (l'.length = n)) (match op with
        | .eql => K (.v (.bool (l == l')))
        | .neq => K (.v (.bool (!(l == l'))))
        | _ => False)
      | _, _, _, _ => False
    | _ => False
  | _, _ => False

theorem seq_eq (x y : ByteArray) : seq x y = (x == y) := (beq_toListBytes x y).symm
theorem seq_iff (x y : ByteArray) : seq x y = true ↔ x = y := by
  unfold seq
  rw [beq_iff_eq, ByteArray.toList_eq, ByteArray.toList_eq]
  constructor
  · intro h; cases x; cases y; simp at h; simp [h]
  · rintro rfl; rfl

section
variable {P : Program} {n : Nat} {ρ σ : Nat → Nat}

theorem intB_sound {op : BinOp} {t : TypeId} {k : IntKind} {x y : Int} {K : SV → Prop} (h : intB op k x y K) : ∃ v, K (.v v) ∧ ∀ w, (binOp op t (.int k x) (.int k y)).run P w = .ok v w := by
  cases op <;> simp only [intB] at h
  case quo => rw [ob_iff] at h; exact ⟨_, h.2, fun w => by have := h.1; simp at this; simp [binOp, Op.intDiv, this]⟩
  case rem => rw [ob_iff] at h; exact ⟨_, h.2, fun w => by have := h.1; simp at this; simp [binOp, Op.intDiv, this]⟩
  all_goals exact ⟨_, h, fun w => by simp [binOp, Op.intArith, Op.intBits, Op.intCmp, iand, ior, ixor, iandn]⟩

theorem strB_sound {op : BinOp} {t : TypeId} {x y : ByteArray} {K : SV → Prop} (h : strB op x y K) : ∃ v, K (.v v) ∧ ∀ w, (binOp op t (.string x) (.string y)).run P w = .ok v w := by
  cases op <;> simp only [strB] at h
  case add =>
    rw [ob_iff] at h
    refine ⟨_, h.2, fun w => ?_⟩
    have h1 := of_decide_eq_true h.1
    have h2 : ¬ (((x.size + y.size : Nat) : Int) > IntKind.i64.max) := by
      have e : IntKind.i64.max = 9223372036854775807 := by decide
      rw [e]; omega
    simp only [binOp, Op.stringOp, h2, if_false, Sem.run_pure]
  all_goals exact ⟨_, h, fun w => by simp [binOp, Op.stringOp, seq]⟩

theorem eqGuard_v (op : BinOp) (t : TypeId) (x y : Operand) (a b : Value) (ha : (match a, b with | .nilIface, .nilIface => false | .agg _, .agg _ => false | _, _ => true) = true) (w : World) : (eqGuard op t x y a b).run P w = .ok () w := by
  unfold eqGuard
  cases op <;> simp
  all_goals (split <;> simp_all)

theorem run_eqn_bool (d : Nat) {t : TypeId} (hu : P.underlying t = some .bool) (x y : Bool) (w : World) : (Op.equalIn (d + 1) t (.bool x) (.bool y)).run P w = .ok (x == y) w := by
  simp [Op.equalIn, run_und w hu]
theorem run_eqn_nil_nil (d : Nat) {t e : TypeId} (hu : P.underlying t = some (.pointer e)) (w : World) : (Op.equalIn (d + 1) t (.pointer none) (.pointer none)).run P w = .ok true w := by
  simp [Op.equalIn, run_und w hu]
theorem run_eqn_ptr_nil (d : Nat) {t e : TypeId} (hu : P.underlying t = some (.pointer e)) (a : Addr) (w : World) : (Op.equalIn (d + 1) t (.pointer (some a)) (.pointer none)).run P w = .ok false w := by
  simp [Op.equalIn, run_und w hu]
/-- '==' and '!=' out of what 'equalIn' tells. -/
theorem run_eqlS {t : TypeId} {a b : Value} {r : Bool} (hr : ∀ w, (Op.equalIn (9999 + 1) t a b).run P w = .ok r w) (w : World) (hb : ∀ w, (binOp .eql t a b).run P w = ((Op.equal t a b).run P w).andThen fun r w => .ok (.bool r) w) : (binOp .eql t a b).run P w = .ok (.bool r) w := by
  rw [hb]; show ((Op.equalIn (9999 + 1) t a b).run P w).andThen _ = _; rw [hr]; rfl
theorem run_neqS {t : TypeId} {a b : Value} {r : Bool} (hr : ∀ w, (Op.equalIn (9999 + 1) t a b).run P w = .ok r w) (w : World) (hb : ∀ w, (binOp .neq t a b).run P w = ((Op.equal t a b).run P w).andThen fun r w => .ok (.bool !r) w) : (binOp .neq t a b).run P w = .ok (.bool !r) w := by
  rw [hb]; show ((Op.equalIn (9999 + 1) t a b).run P w).andThen _ = _; rw [hr]; rfl

theorem run_eqItems_ints (w : World) (d : Nat) {e : TypeId} {q k : IntKind} (hu : P.underlying e = some (.int q)) (xs ys : List Int) : ∀ (is : List Nat), (∀ i ∈ is, i < xs.length ∧ i < ys.length) →
    (Op.eqItems (d + 1) e 1 (xs.map (Value.int k)).toArray (ys.map (Value.int k)).toArray is).run P w = .ok (is.all fun i => xs.getD i 0 == ys.getD i 0) w
  | [], _ => by simp [Op.eqItems]
  | i :: is, h => by
    obtain ⟨h1, h2⟩ := h i (by simp)
    have hp : P.plainKey e = true := by simp [Program.plainKey, hu]
    have p1 := run_part_plain (P := P) w hp (xs := (xs.map (Value.int k)).toArray) (off := i * 1) (v := .int k xs[i]) (by simp [h1])
    have p2 := run_part_plain (P := P) w hp (xs := (ys.map (Value.int k)).toArray) (off := i * 1) (v := .int k ys[i]) (by simp [h2])
    have ih := run_eqItems_ints (k := k) w d hu xs ys is (fun j hj => h j (by simp [hj]))
    have e1 : xs.getD i 0 = xs[i] := by rw [List.getD_eq_getElem?_getD, List.getElem?_eq_getElem h1]; rfl
    have e2 : ys.getD i 0 = ys[i] := by rw [List.getD_eq_getElem?_getD, List.getElem?_eq_getElem h2]; rfl
    simp only [Op.eqItems, Sem.run_bind, p1, p2, Result.andThen_ok, run_equalIn_int (P := P) (w := w) d e k q xs[i] ys[i] hu, List.all_cons, e1, e2]
    cases hx : (xs[i] == ys[i])
    · simp
    · simpa using ih
theorem all_range_eq {xs ys : List Int} {n : Nat} (h1 : xs.length = n) (h2 : ys.length = n) : ((List.range n).all fun i => xs.getD i 0 == ys.getD i 0) = (xs == ys) := by
  rw [Bool.eq_iff_iff, List.all_eq_true, beq_iff_eq]
  constructor
  · intro h
    apply List.ext_getElem (by omega)
    intro i h3 h4
    have := h i (by simp; omega)
    rw [beq_iff_eq, List.getD_eq_getElem?_getD, List.getElem?_eq_getElem h3, List.getD_eq_getElem?_getD, List.getElem?_eq_getElem h4] at this
    exact this
  · rintro rfl i _; simp
theorem eqGuard_agg {t : TypeId} (h : P.eqGuardType P.depth t = false) (op : BinOp) (x y : Operand) (a b : Array Value) (w : World) : (eqGuard op t x y (.agg a) (.agg b)).run P w = .ok () w := by
  unfold eqGuard
  cases op <;> simp [Sem.run_bind, h]
theorem run_eqn_ints (d : Nat) {t e : TypeId} {n : Nat} {i : TypeInfo} {q k : IntKind} (hu : P.underlying t = some (.array n e)) (he : P.underlying e = some (.int q)) (hi : P.info? e = some i) (hc : P.cellsOf e = 1) {xs ys : List Int} (h1 : xs.length = n) (h2 : ys.length = n) (w : World) :
    (Op.equalIn (d + 2) t (.agg (xs.map (Value.int k)).toArray) (.agg (ys.map (Value.int k)).toArray)).run P w = .ok (xs == ys) w := by
  rw [run_equalIn_array w (d + 1) _ _ hu hi, hc, run_eqItems_ints w d he xs ys _ (fun i hi => by simp at hi; omega), all_range_eq h1 h2]

theorem binS_sound {op : BinOp} {t : TypeId} {a b : SV} {va vb : Value} {K : SV → Prop} (ha : Rel n ρ σ a va) (hb : Rel n ρ σ b vb) (x y : Operand) (h : binS P op t a b K) :
    ∃ s v, K s ∧ Rel n ρ σ s v ∧ ∀ w, (do eqGuard op t x y va vb; binOp op t va vb).run P w = .ok v w := by
  unfold binS at h
  split at h
  · simp only [Rel] at ha hb
    subst ha hb
    rename_i k p k' q
    have hg := eqGuard_v (P := P) op t x y (.int k p) (.int k' q) rfl
    split at h
    · rw [ob_iff] at h
      refine ⟨_, _, h.2, rfl, fun w => ?_⟩
      have := of_decide_eq_true h.1
      rw [Sem.run_bind, hg]
      simp [binOp, Op.shift, ishl, show ¬ q < 0 by omega]
    · rw [ob_iff] at h
      refine ⟨_, _, h.2, rfl, fun w => ?_⟩
      have := of_decide_eq_true h.1
      rw [Sem.run_bind, hg]
      simp [binOp, Op.shift, ishr, show ¬ q < 0 by omega]
    · split at h
      · rename_i hk
        have := of_decide_eq_true hk; subst this
        obtain ⟨v, h1, h2⟩ := intB_sound (P := P) (t := t) h
        exact ⟨_, v, h1, rfl, fun w => by rw [Sem.run_bind, hg]; exact h2 w⟩
      · exact h.elim
  · simp only [Rel] at ha hb
    subst ha hb
    rename_i p q
    obtain ⟨v, h1, h2⟩ := strB_sound (P := P) (t := t) h
    exact ⟨_, v, h1, rfl, fun w => by rw [Sem.run_bind, eqGuard_v _ _ _ _ _ _ rfl]; exact h2 w⟩
  · simp only [Rel] at ha hb
    subst ha hb
    split at h
    · rename_i hu
      split at h
      · exact ⟨_, _, h, rfl, fun w => by rw [Sem.run_bind, eqGuard_v _ _ _ _ _ _ rfl]; exact run_eqlS (run_eqn_bool 9999 hu _ _) w (fun w => by simp [binOp])⟩
      · exact ⟨_, _, h, rfl, fun w => by rw [Sem.run_bind, eqGuard_v _ _ _ _ _ _ rfl]; exact run_neqS (run_eqn_bool 9999 hu _ _) w (fun w => by simp [binOp])⟩
      · exact h.elim
    · exact h.elim
  · simp only [Rel] at ha hb
    subst ha hb
    split at h
    · rename_i hu
      split at h
      · exact ⟨_, _, h, rfl, fun w => by rw [Sem.run_bind, eqGuard_v _ _ _ _ _ _ rfl]; exact run_eqlS (run_eqn_nil_nil 9999 hu) w (fun w => by simp [binOp])⟩
      · exact ⟨_, _, h, rfl, fun w => by rw [Sem.run_bind, eqGuard_v _ _ _ _ _ _ rfl]; exact run_neqS (run_eqn_nil_nil 9999 hu) w (fun w => by simp [binOp])⟩
      · exact h.elim
    · exact h.elim
  · simp only [Rel] at ha hb
    subst hb
    obtain ⟨_, rfl⟩ := ha
    split at h
    · rename_i hu
      split at h
      · exact ⟨_, _, h, rfl, fun w => by rw [Sem.run_bind, eqGuard_v _ _ _ _ _ _ rfl]; exact run_eqlS (run_eqn_ptr_nil 9999 hu _) w (fun w => by simp [binOp])⟩
      · exact ⟨_, _, h, rfl, fun w => by rw [Sem.run_bind, eqGuard_v _ _ _ _ _ _ rfl]; exact run_neqS (run_eqn_ptr_nil 9999 hu _) w (fun w => by simp [binOp])⟩
      · exact h.elim
    · exact h.elim
  · simp only [Rel] at ha hb
    subst ha hb
    split at h
    · rename_i hu
      split at h
      · rename_i he hi hc hg
        rw [ob_iff, Bool.and_eq_true, decide_eq_true_eq, decide_eq_true_eq] at h
        obtain ⟨⟨h1, h2⟩, h⟩ := h
        rw [Bool.and_eq_true, decide_eq_true_eq] at hc
        obtain ⟨hc, rfl⟩ := hc
        have hc := Nat.eq_of_beq_eq_true hc
        split at h
        · exact ⟨_, _, h, rfl, fun w => by rw [Sem.run_bind, eqGuard_agg hg]; exact run_eqlS (run_eqn_ints 9998 hu he hi hc h1 h2) w (fun w => by simp [binOp])⟩
        · exact ⟨_, _, h, rfl, fun w => by rw [Sem.run_bind, eqGuard_agg hg]; exact run_neqS (run_eqn_ints 9998 hu he hi hc h1 h2) w (fun w => by simp [binOp])⟩
        · exact h.elim
      · exact h.elim
    · exact h.elim
  · exact h.elim
end

end Go.Proofs.Ytinmllbkdjceaaa.Sx
