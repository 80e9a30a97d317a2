/- The quiet operations of the walk by computation: they only read. No condition. -/
import Derived.Test.YtmnenigmkfnciaaGreatDoorSx1
namespace Go.Proofs.YtmnenigmkfnciaaGreatDoor.Sx
open Go
variable {ds : List Deferred}

/-- A Bool that may be known: two ways. -/
def bc (b : Bool) (p q : Prop) : Prop := match b with | true => p | false => q
/-- A Bool that must be true. -/
def ob (b : Bool) (p : Prop) : Prop := match b with | true => p | false => False
theorem ob_iff {b : Bool} {p : Prop} : ob b p ↔ b = true ∧ p := by cases b <;> simp [ob]
theorem ob_mk {b : Bool} {p : Prop} (h : b = true) (hp : p) : ob b p := ob_iff.2 ⟨h, hp⟩
theorem bc_iff {b : Bool} {p q : Prop} : bc b p q ↔ (b = true → p) ∧ (b = false → q) := by cases b <;> simp [bc]
theorem bc_left {b : Bool} {p q : Prop} (h : bc b p (p ∧ q)) : p := by cases b with | true => exact h | false => exact h.1
theorem bc_mk {b : Bool} {p q : Prop} (h : b = true → p) (h' : b = false → q) : bc b p q := bc_iff.2 ⟨h, h'⟩

abbrev Env := List (Nat × SV)
def look : Env → Nat → Option SV
  | [], _ => none
  | (k, s) :: r, t => match Nat.beq k t with | true => some s | false => look r t
def nth {α : Type} : List α → Nat → Option α
  | [], _ => none
  | a :: _, 0 => some a
  | _ :: l, i + 1 => nth l i
theorem nth_eq {α : Type} : ∀ (l : List α) (i : Nat), nth l i = l[i]?
  | [], i => by simp [nth]
  | a :: l, 0 => by simp [nth]
  | a :: l, i + 1 => by simp [nth, nth_eq l i]

/-- The frame holds what the environment says. -/
structure EOK (ds : List Deferred) (n : Nat) (ρ : Nat → Nat) (σ : Nat → Nat × Nat) (env : Env) (nt : Nat) (a : Act) : Prop where
  size : a.tmps.size = nt
  defers : a.defers = ds
  get : ∀ t s, look env t = some s → Rel n ρ σ s (a.tmps.getD t undef)

theorem EOK.ext {n n' : Nat} {ρ ρ' : Nat → Nat} {σ σ' : Nat → Nat × Nat} {env : Env} {nt : Nat} {a : Act} (h : EOK ds n ρ σ env nt a) (hn : n ≤ n') (hr : ∀ i, i < n → ρ' i = ρ i ∧ σ' i = σ i) : EOK ds n' ρ' σ' env nt a :=
  ⟨h.size, h.defers, fun t s hs => (h.get t s hs).ext hn hr⟩

theorem EOK.put {n : Nat} {ρ : Nat → Nat} {σ : Nat → Nat × Nat} {env : Env} {nt : Nat} {a : Act} (h : EOK ds n ρ σ env nt a) {d : Nat} (hd : d < nt) {s : SV} {v : Value} (hs : Rel n ρ σ s v) : EOK ds n ρ σ ((d, s) :: env) nt (a.put (some d) v) := by
  refine ⟨by simp [Act.put, h.size], by simp [Act.put, h.defers], fun t s' ht => ?_⟩
  simp only [look] at ht
  by_cases e : d = t
  · subst e
    simp at ht; subst ht
    have hd' : d < a.tmps.size := by rw [h.size]; exact hd
    simpa [Act.put, hd'] using hs
  · have : Nat.beq d t = false := by cases hb : Nat.beq d t with | false => rfl | true => exact absurd (Nat.eq_of_beq_eq_true hb) e
    rw [this] at ht
    have := h.get t s' ht
    simpa [Act.put, e, Array.getElem?_setIfInBounds] using this

def evo (env : Env) : Operand → Option SV
  | .tmp t => look env t
  | .const v => some (.v v)
  | .func f => some (.fn (.func f) [] [])
  | .global g => some (.v (.pointer (some ⟨g, 0, none⟩)))
def ev (env : Env) (x : Operand) (f : SV → Prop) : Prop := match evo env x with | some s => f s | none => False
theorem ev_spec {env : Env} {x : Operand} {f : SV → Prop} (h : ev env x f) : ∃ s, evo env x = some s ∧ f s := by
  unfold ev at h; split at h
  · exact ⟨_, by assumption, h⟩
  · exact h.elim
theorem evo_sound {n : Nat} {ρ : Nat → Nat} {σ : Nat → Nat × Nat} {env : Env} {nt : Nat} {a : Act} (h : EOK ds n ρ σ env nt a) {x : Operand} {s : SV} (hx : evo env x = some s) : Rel n ρ σ s (a.eval x) := by
  cases x with
  | tmp t => exact h.get t s hx
  | const v => simp only [evo, Option.some.injEq] at hx; subst hx; simp [Rel, Act.eval]
  | func f => simp only [evo, Option.some.injEq] at hx; subst hx; simp only [Rel, Act.eval]; exact ⟨#[], #[], rfl, by simp [RelL], by simp [RelL]⟩
  | global g => simp only [evo, Option.some.injEq] at hx; subst hx; simp [Rel, Act.eval]

/-! ### Numbers -/
def iand (k : IntKind) (x y : Int) : Int := k.wrap ((BitVec.ofInt k.bits x &&& BitVec.ofInt k.bits y).toNat)
def ior (k : IntKind) (x y : Int) : Int := k.wrap ((BitVec.ofInt k.bits x ||| BitVec.ofInt k.bits y).toNat)
def ixor (k : IntKind) (x y : Int) : Int := k.wrap ((BitVec.ofInt k.bits x ^^^ BitVec.ofInt k.bits y).toNat)
def iandn (k : IntKind) (x y : Int) : Int := k.wrap ((BitVec.ofInt k.bits x &&& ~~~ BitVec.ofInt k.bits y).toNat)
def ishl (k : IntKind) (x y : Int) : Int := k.wrap (x * 2 ^ (min y.toNat k.bits))
def ishr (k : IntKind) (x y : Int) : Int := x.fdiv (2 ^ (min y.toNat k.bits))
def seq (x y : ByteArray) : Bool := x.toList == y.toList
def bt (s : ByteArray) (i : Int) : Int := ((s.data.toList.getD i.toNat 0).toNat : Int)
def mn (x y : Int) : Int := if y < x then y else x
def mx (x y : Int) : Int := if y > x then y else x
def bstr (l : List Int) : ByteArray := ⟨(l.map fun n => UInt8.ofNat n.toNat).toArray⟩

def undT (P : Program) (t : TypeId) : Option TypeDesc := P.underlying t
def isAggT (P : Program) (t : TypeId) : Option Bool := match P.underlying t with
  | some (.struct _) => some true
  | some (.array _ _) => some true
  | some _ => some false
  | none => none
def sizeT (P : Program) (t : TypeId) : Option Nat := match P.info? t with
  | some i => some i.size
  | none => none

section runs
variable {P : Program} (w : World)
theorem run_und {t : TypeId} {d : TypeDesc} (h : P.underlying t = some d) : (underlying t).run P w = .ok d w := run_underlying h w
theorem run_sizeT {t : TypeId} {n : Nat} (h : sizeT P t = some n) : (sizeOf t).run P w = .ok n w := by
  unfold sizeT at h
  split at h
  · rename_i i hi; simp at h; subst h; simp [sizeOf, typeInfo, hi]
  · cases h
theorem run_isAggT {t : TypeId} {b : Bool} (h : isAggT P t = some b) : (isAgg t).run P w = .ok b w := by
  unfold isAggT at h
  unfold isAgg
  rw [Sem.run_bind]
  split at h <;> simp at h <;> subst h
  · rename_i d hd; rw [run_und w hd]; simp
  · rename_i d e hd; rw [run_und w hd]; simp
  · rename_i d h1 h2 hd
    rw [run_und w hd]
    cases d <;> simp_all
end runs

/-! ### Operations on two values -/
def intB (op : BinOp) (k : IntKind) (x y : Int) (K : SV → Prop) : Prop :=
  match op with
  | .add => K (.v (.int k (k.wrap (x + y))))
  | .sub => K (.v (.int k (k.wrap (x - y))))
  | .mul => K (.v (.int k (k.wrap (x * y))))
  | .quo => ob (!decide (y = 0)) (K (.v (.int k (k.wrap (x.tdiv y)))))
  | .rem => ob (!decide (y = 0)) (K (.v (.int k (x.tmod y))))
  | .and => K (.v (.int k (iand k x y)))
  | .or => K (.v (.int k (ior k x y)))
  | .xor => K (.v (.int k (ixor k x y)))
  | .andNot => K (.v (.int k (iandn k x y)))
  | .eql => K (.v (.bool (x == y)))
  | .neq => K (.v (.bool (x != y)))
  | .lss => K (.v (.bool (decide (x < y))))
  | .leq => K (.v (.bool (decide (x ≤ y))))
  | .gtr => K (.v (.bool (decide (x > y))))
  | .geq => K (.v (.bool (decide (x ≥ y))))
  | _ => False
def strB (op : BinOp) (x y : ByteArray) (K : SV → Prop) : Prop :=
  match op with
  | .add => ob (decide (x.size + y.size ≤ 9223372036854775807)) (K (.v (.string (x ++ y))))
  | .eql => K (.v (.bool (seq x y)))
  | .neq => K (.v (.bool (!seq x y)))
  | .lss => K (.v (.bool (Op.bytesLess x.toList y.toList)))
  | .leq => K (.v (.bool (Op.bytesLess x.toList y.toList || seq x y)))
  | .gtr => K (.v (.bool (!(Op.bytesLess x.toList y.toList || seq x y))))
  | .geq => K (.v (.bool (!Op.bytesLess x.toList y.toList)))
  | _ => False

/-- The cells that a type's value has, if all of them are plain and all count: so many. -/
def flatT (P : Program) : Nat → TypeId → Option Nat
  | 0, _ => none
  | d + 1, t => match P.underlying t with
    | some (.int _) => some 1
    | some .bool => some 1
    | some .string => some 1
    | some (.array len e) => match flatT P d e, sizeT P e with
      | some n, some s => match Nat.beq n s with | true => some (len * n) | false => none
      | _, _ => none
    | some (.struct fs) => match P.stoodInHeld t with
      | true => none
      | false => flatF P d fs.toList 0
    | _ => none
  where flatF (P : Program) (d : Nat) : List Field → Nat → Option Nat
  | [], o => some o
  | f :: r, o => match decide (f.name = "_"), Nat.beq f.offset o, flatT P d f.type, sizeT P f.type with
    | false, true, some n, some s => match Nat.beq n s with | true => flatF P d r (o + n) | false => none
    | _, _, _, _ => none

def toV : List SV → Option (List Value)
  | [] => some []
  | a :: l => match a, toV l with
    | .v x, some r => some (x :: r)
    | _, _ => none
def eq1 (u : TypeDesc) (a b : Value) : Option Bool :=
  match u, a, b with
  | .int _, .int k x, .int k' y => match decide (k = k') with
    | true => some (x == y)
    | false => none
  | .bool, .bool x, .bool y => some (x == y)
  | .string, .string x, .string y => some (seq x y)
  | _, _, _ => none
def eqA (f : List Value → List Value → Option Bool) (c : Nat) (xs ys : List Value) : List Nat → Option Bool
  | [] => some true
  | i :: r => match f ((xs.drop (i * c)).take c) ((ys.drop (i * c)).take c), eqA f c xs ys r with
    | some a, some b => some (a && b)
    | _, _ => none
def eqF (P : Program) (f : TypeId → List Value → List Value → Option Bool) (xs ys : List Value) : List Field → Option Bool
  | [] => some true
  | g :: r => match decide (g.name = "_"), f g.type ((xs.drop g.offset).take (P.cellsOf g.type)) ((ys.drop g.offset).take (P.cellsOf g.type)), eqF P f xs ys r with
    | false, some a, some b => some (a && b)
    | _, _, _ => none
/-- Are two values of a type the same? They are given by their cells. -/
def eqC (P : Program) : Nat → TypeId → List Value → List Value → Option Bool
  | 0, _, _, _ => none
  | d + 1, t, xs, ys => match P.underlying t, P.info? t with
    | some (.array n e), some _ => match P.info? e with
      | some _ => eqA (eqC P d e) (P.cellsOf e) xs ys (List.range n)
      | none => none
    | some (.struct fs), some _ => match P.stoodInHeld t with
      | true => none
      | false => eqF P (eqC P d) xs ys fs.toList
    | some u, some _ => match xs, ys with
      | [a], [b] => eq1 u a b
      | _, _ => none
    | _, _ => none
def binS (P : Program) (op : BinOp) (t : TypeId) (a b : SV) (K : SV → Prop) : Prop :=
  match a, b with
  | .v (.int k x), .v (.int k' y) =>
    match op with
    | .shl => ob (decide (0 ≤ y)) (K (.v (.int k (ishl k x y))))
    | .shr => ob (decide (0 ≤ y)) (K (.v (.int k (ishr k x y))))
    | _ => match decide (k = k') with
      | true => intB op k x y K
      | false => False
  | .v (.string x), .v (.string y) => strB op x y K
  | .v (.bool x), .v (.bool y) => match P.underlying t with
    | some .bool => match op with
      | .eql => K (.v (.bool (x == y)))
      | .neq => K (.v (.bool (!(x == y))))
      | _ => False
    | _ => False
  | .v (.pointer none), .v (.pointer none) => match P.underlying t with
    | some (.pointer _) => match op with
      | .eql => K (.v (.bool true))
      | .neq => K (.v (.bool false))
      | _ => False
    | _ => False
  | .ptr _ _, .v (.pointer none) => match P.underlying t with
    | some (.pointer _) => match op with
      | .eql => K (.v (.bool false))
      | .neq => K (.v (.bool true))
      | _ => False
    | _ => False
  | .ia k l, .ia k' l' => match P.underlying t with
    | some (.array n e) => match P.underlying e, P.info? e, Nat.beq (P.cellsOf e) 1 && decide (k = k'), P.eqGuardType P.depth t with
      | some (.int _), some _, true, false => ob (decide (l.length = n) && decide (l'.length = n)) (match op with
        | .eql => K (.v (.bool (l == l')))
        | .neq => K (.v (.bool (!(l == l'))))
        | _ => False)
      | _, _, _, _ => False
    | _ => False
  | .agg l, .agg l' => match isAggT P t, toV l, toV l', P.eqGuardType P.depth t with
    | some true, some xs, some ys, false => match eqC P 20 t xs ys with
      | some r => match op with
        | .eql => K (.v (.bool r))
        | .neq => K (.v (.bool (!r)))
        | _ => False
      | none => False
    | _, _, _, _ => False
  | .v (.map none), .v (.map none) => match P.underlying t with
    | some (.map _ _) => match op with
      | .eql => K (.v (.bool true))
      | .neq => K (.v (.bool false))
      | _ => False
    | _ => False
  | .mp _, .v (.map none) => match P.underlying t with
    | some (.map _ _) => match op with
      | .eql => K (.v (.bool false))
      | .neq => K (.v (.bool true))
      | _ => False
    | _ => False
  | .pix _ _ _ _ _, .v (.pointer none) => match P.underlying t with
    | some (.pointer _) => match op with
      | .eql => K (.v (.bool false))
      | .neq => K (.v (.bool true))
      | _ => False
    | _ => False
  | .slc _ _ _ c _, .v (.slice none _ _) => match P.underlying t with
    | some (.slice _) => match op with
      | .eql => bc (Nat.ble 1 c) (K (.v (.bool false))) (K (.v (.bool false)) ∧ K (.v (.bool true)))
      | .neq => bc (Nat.ble 1 c) (K (.v (.bool true))) (K (.v (.bool true)) ∧ K (.v (.bool false)))
      | _ => False
    | _ => False
  | .v (.slice none _ _), .v (.slice none _ _) => match P.underlying t with
    | some (.slice _) => match op with
      | .eql => K (.v (.bool true))
      | .neq => K (.v (.bool false))
      | _ => False
    | _ => False
  | .v (.complex k a b), .v (.complex k' c d) => match decide (k = k'), op with
    | true, .add => match Op.complexOp .add k a b c d with
      | .pure v => K (.v v)
      | _ => False
    | _, _ => False
  | _, _ => False

theorem seq_eq (x y : ByteArray) : seq x y = (x == y) := (beq_toListBytes x y).symm
theorem seq_iff (x y : ByteArray) : seq x y = true ↔ x = y := by
  unfold seq
  rw [beq_iff_eq, ByteArray.toList_eq, ByteArray.toList_eq]
  constructor
  · intro h; cases x; cases y; simp at h; simp [h]
  · rintro rfl; rfl

section
variable {P : Program} {n : Nat} {ρ : Nat → Nat} {σ : Nat → Nat × Nat}

theorem intB_sound {op : BinOp} {t : TypeId} {k : IntKind} {x y : Int} {K : SV → Prop} (h : intB op k x y K) : ∃ v, K (.v v) ∧ ∀ w, (binOp op t (.int k x) (.int k y)).run P w = .ok v w := by
  cases op <;> simp only [intB] at h
  case quo => rw [ob_iff] at h; exact ⟨_, h.2, fun w => by have := h.1; simp at this; simp [binOp, Op.intDiv, this]⟩
  case rem => rw [ob_iff] at h; exact ⟨_, h.2, fun w => by have := h.1; simp at this; simp [binOp, Op.intDiv, this]⟩
  all_goals exact ⟨_, h, fun w => by simp [binOp, Op.intArith, Op.intBits, Op.intCmp, iand, ior, ixor, iandn]⟩

theorem strB_sound {op : BinOp} {t : TypeId} {x y : ByteArray} {K : SV → Prop} (h : strB op x y K) : ∃ v, K (.v v) ∧ ∀ w, (binOp op t (.string x) (.string y)).run P w = .ok v w := by
  cases op <;> simp only [strB] at h
  case add =>
    rw [ob_iff] at h
    refine ⟨_, h.2, fun w => ?_⟩
    have h1 := of_decide_eq_true h.1
    have h2 : ¬ (((x.size + y.size : Nat) : Int) > IntKind.i64.max) := by
      have e : IntKind.i64.max = 9223372036854775807 := by decide
      rw [e]; omega
    simp only [binOp, Op.stringOp, h2, if_false, Sem.run_pure]
  all_goals exact ⟨_, h, fun w => by simp [binOp, Op.stringOp, seq]⟩

theorem eqGuard_v (op : BinOp) (t : TypeId) (x y : Operand) (a b : Value) (ha : (match a, b with | .nilIface, .nilIface => false | .agg _, .agg _ => false | _, _ => true) = true) (w : World) : (eqGuard op t x y a b).run P w = .ok () w := by
  unfold eqGuard
  cases op <;> simp
  all_goals (split <;> simp_all)

theorem run_eqn_bool (d : Nat) {t : TypeId} (hu : P.underlying t = some .bool) (x y : Bool) (w : World) : (Op.equalIn (d + 1) t (.bool x) (.bool y)).run P w = .ok (x == y) w := by
  simp [Op.equalIn, run_und w hu]
theorem run_eqn_nil_nil (d : Nat) {t e : TypeId} (hu : P.underlying t = some (.pointer e)) (w : World) : (Op.equalIn (d + 1) t (.pointer none) (.pointer none)).run P w = .ok true w := by
  simp [Op.equalIn, run_und w hu]
theorem run_eqn_ptr_nil (d : Nat) {t e : TypeId} (hu : P.underlying t = some (.pointer e)) (a : Addr) (w : World) : (Op.equalIn (d + 1) t (.pointer (some a)) (.pointer none)).run P w = .ok false w := by
  simp [Op.equalIn, run_und w hu]
theorem run_eqn_mnil (d : Nat) {t k e : TypeId} (hu : P.underlying t = some (.map k e)) (w : World) : (Op.equalIn (d + 1) t (.map none) (.map none)).run P w = .ok true w := by
  simp [Op.equalIn, run_und w hu]
theorem run_eqn_map_nil (d : Nat) {t k e : TypeId} (hu : P.underlying t = some (.map k e)) (r : Nat) (w : World) : (Op.equalIn (d + 1) t (.map (some r)) (.map none)).run P w = .ok false w := by
  simp [Op.equalIn, run_und w hu]
theorem run_eqn_snil (d : Nat) {t e : TypeId} (hu : P.underlying t = some (.slice e)) (l c l' c' : Nat) (w : World) : (Op.equalIn (d + 1) t (.slice none l c) (.slice none l' c')).run P w = .ok true w := by
  simp [Op.equalIn, run_und w hu]
theorem run_eqn_slice_nil (d : Nat) {t e : TypeId} (hu : P.underlying t = some (.slice e)) (a : Addr) (l c l' c' : Nat) (w : World) : (Op.equalIn (d + 1) t (.slice (some a) l c) (.slice none l' c')).run P w = .ok false w := by
  simp [Op.equalIn, run_und w hu]
/-- '==' and '!=' out of what 'equalIn' tells. -/
theorem run_eqlS {t : TypeId} {a b : Value} {r : Bool} (hr : ∀ w, (Op.equalIn (9999 + 1) t a b).run P w = .ok r w) (w : World) (hb : ∀ w, (binOp .eql t a b).run P w = ((Op.equal t a b).run P w).andThen fun r w => .ok (.bool r) w) : (binOp .eql t a b).run P w = .ok (.bool r) w := by
  rw [hb]; show ((Op.equalIn (9999 + 1) t a b).run P w).andThen _ = _; rw [hr]; rfl
theorem run_neqS {t : TypeId} {a b : Value} {r : Bool} (hr : ∀ w, (Op.equalIn (9999 + 1) t a b).run P w = .ok r w) (w : World) (hb : ∀ w, (binOp .neq t a b).run P w = ((Op.equal t a b).run P w).andThen fun r w => .ok (.bool !r) w) : (binOp .neq t a b).run P w = .ok (.bool !r) w := by
  rw [hb]; show ((Op.equalIn (9999 + 1) t a b).run P w).andThen _ = _; rw [hr]; rfl

theorem run_eqItems_ints (w : World) (d : Nat) {e : TypeId} {q k : IntKind} (hu : P.underlying e = some (.int q)) (xs ys : List Int) : ∀ (is : List Nat), (∀ i ∈ is, i < xs.length ∧ i < ys.length) →
    (Op.eqItems (d + 1) e 1 (xs.map (Value.int k)).toArray (ys.map (Value.int k)).toArray is).run P w = .ok (is.all fun i => xs.getD i 0 == ys.getD i 0) w
  | [], _ => by simp [Op.eqItems]
  | i :: is, h => by
    obtain ⟨h1, h2⟩ := h i (by simp)
    have hp : P.plainKey e = true := by simp [Program.plainKey, hu]
    have p1 := run_part_plain (P := P) w hp (xs := (xs.map (Value.int k)).toArray) (off := i * 1) (v := .int k xs[i]) (by simp [h1])
    have p2 := run_part_plain (P := P) w hp (xs := (ys.map (Value.int k)).toArray) (off := i * 1) (v := .int k ys[i]) (by simp [h2])
    have ih := run_eqItems_ints (k := k) w d hu xs ys is (fun j hj => h j (by simp [hj]))
    have e1 : xs.getD i 0 = xs[i] := by rw [List.getD_eq_getElem?_getD, List.getElem?_eq_getElem h1]; rfl
    have e2 : ys.getD i 0 = ys[i] := by rw [List.getD_eq_getElem?_getD, List.getElem?_eq_getElem h2]; rfl
    simp only [Op.eqItems, Sem.run_bind, p1, p2, Result.andThen_ok, run_equalIn_int (P := P) (w := w) d e k q xs[i] ys[i] hu, List.all_cons, e1, e2]
    cases hx : (xs[i] == ys[i])
    · simp
    · simpa using ih
theorem all_range_eq {xs ys : List Int} {n : Nat} (h1 : xs.length = n) (h2 : ys.length = n) : ((List.range n).all fun i => xs.getD i 0 == ys.getD i 0) = (xs == ys) := by
  rw [Bool.eq_iff_iff, List.all_eq_true, beq_iff_eq]
  constructor
  · intro h
    apply List.ext_getElem (by omega)
    intro i h3 h4
    have := h i (by simp; omega)
    rw [beq_iff_eq, List.getD_eq_getElem?_getD, List.getElem?_eq_getElem h3, List.getD_eq_getElem?_getD, List.getElem?_eq_getElem h4] at this
    exact this
  · rintro rfl i _; simp
theorem eqGuard_agg {t : TypeId} (h : P.eqGuardType P.depth t = false) (op : BinOp) (x y : Operand) (a b : Array Value) (w : World) : (eqGuard op t x y (.agg a) (.agg b)).run P w = .ok () w := by
  unfold eqGuard
  cases op <;> simp [Sem.run_bind, h]
theorem run_eqn_ints (d : Nat) {t e : TypeId} {n : Nat} {i : TypeInfo} {q k : IntKind} (hu : P.underlying t = some (.array n e)) (he : P.underlying e = some (.int q)) (hi : P.info? e = some i) (hc : P.cellsOf e = 1) {xs ys : List Int} (h1 : xs.length = n) (h2 : ys.length = n) (w : World) :
    (Op.equalIn (d + 2) t (.agg (xs.map (Value.int k)).toArray) (.agg (ys.map (Value.int k)).toArray)).run P w = .ok (xs == ys) w := by
  rw [run_equalIn_array w (d + 1) _ _ hu hi, hc, run_eqItems_ints w d he xs ys _ (fun i hi => by simp at hi; omega), all_range_eq h1 h2]

theorem toV_rel : ∀ {l : List SV} {u xs : List Value}, toV l = some xs → RelL n ρ σ l u → u = xs
  | [], u, xs, h, hr => by simp [toV] at h; subst h; simpa [RelL] using hr
  | a :: l, u, xs, h, hr => by
    simp only [toV] at h
    split at h
    · rename_i x r hx
      cases h
      simp only [RelL] at hr
      obtain ⟨b, m, rfl, h1, h2⟩ := hr
      simp only [Rel] at h1
      rw [h1, toV_rel hx h2]
    · cases h
theorem eq1_sound {u : TypeDesc} {t : TypeId} {a b : Value} {r : Bool} (hu : P.underlying t = some u) (h : eq1 u a b = some r) (D : Nat) (w : World) : (Op.equalIn (D + 1) t a b).run P w = .ok r w := by
  unfold eq1 at h
  split at h
  · split at h
    · rename_i hk
      have := of_decide_eq_true hk; subst this
      cases h
      exact run_equalIn_int (P := P) (w := w) D t _ _ _ _ hu
    · cases h
  · cases h
    simp [Op.equalIn, run_und w hu]
  · cases h
    simp [Op.equalIn, run_und w hu, seq_eq]
  · cases h
theorem eq1_scalar {u : TypeDesc} {a b : Value} {r : Bool} (h : eq1 u a b = some r) : (∀ fs, u ≠ .struct fs) ∧ (∀ n e, u ≠ .array n e) := by
  unfold eq1 at h
  split at h <;> first | (cases h; done) | exact ⟨fun _ => (by intro h; cases h), fun _ _ => (by intro h; cases h)⟩
/-- What 'part' gives of two aggregates, and whether that is the same. -/
def EqP (P : Program) (D : Nat) (t : TypeId) (r : Bool) (X Y : Array Value) (off : Nat) : Prop :=
  ∃ a b, ∀ w : World, (part t X off).run P w = .ok a w ∧ (part t Y off).run P w = .ok b w ∧ (Op.equalIn D t a b).run P w = .ok r w
theorem cellsOf_size {t : TypeId} {i : TypeInfo} (hi : P.info? t = some i) : P.cellsOf t = i.size := by
  simp [Program.cellsOf, hi]
theorem getElem?_of_one {X : Array Value} {off c : Nat} {a : Value} (h : (X.toList.drop off).take c = [a]) : X[off]? = some a := getElem?_of_chunk h
theorem eqA_sound {f : List Value → List Value → Option Bool} {D : Nat} {e : TypeId} {X Y : Array Value}
    (hf : ∀ o r, f ((X.toList.drop o).take (P.cellsOf e)) ((Y.toList.drop o).take (P.cellsOf e)) = some r → EqP P D e r X Y o) : ∀ (is : List Nat) (r : Bool), eqA f (P.cellsOf e) X.toList Y.toList is = some r → ∀ w, (Op.eqItems D e (P.cellsOf e) X Y is).run P w = .ok r w
  | [], r, h, w => by simp [eqA] at h; subst h; simp [Op.eqItems]
  | i :: is, r, h, w => by
    simp only [eqA] at h
    split at h
    · rename_i a b h1 h2
      cases h
      obtain ⟨va, vb, hv⟩ := hf _ _ h1
      obtain ⟨p1, p2, p3⟩ := hv w
      simp only [Op.eqItems, Sem.run_bind, p1, p2, p3, Result.andThen_ok]
      cases a
      · simp
      · simpa using eqA_sound hf is b h2 w
    · cases h
theorem eqF_sound {f : TypeId → List Value → List Value → Option Bool} {D : Nat} {X Y : Array Value}
    (hf : ∀ e o r, f e ((X.toList.drop o).take (P.cellsOf e)) ((Y.toList.drop o).take (P.cellsOf e)) = some r → EqP P D e r X Y o) : ∀ (fs : List Field) (r : Bool), eqF P f X.toList Y.toList fs = some r → ∀ w, (Op.eqFields D X Y fs).run P w = .ok r w
  | [], r, h, w => by simp [eqF] at h; subst h; simp [Op.eqFields]
  | g :: fs, r, h, w => by
    simp only [eqF] at h
    split at h
    · rename_i a b hn h1 h2
      cases h
      obtain ⟨va, vb, hv⟩ := hf _ _ _ h1
      obtain ⟨p1, p2, p3⟩ := hv w
      have hn := of_decide_eq_false hn
      simp only [Op.eqFields, hn, ne_eq, not_false_eq_true, if_true, Sem.run_bind, p1, p2, p3, Result.andThen_ok]
      cases a
      · simp
      · simpa using eqF_sound hf fs b h2 w
    · cases h
/-- The same of two whole values. -/
theorem eqC_whole : ∀ (d D : Nat) (t : TypeId) (X Y : Array Value) (r : Bool), d ≤ D → isAggT P t = some true → eqC P d t X.toList Y.toList = some r → ∀ w, (Op.equalIn D t (.agg X) (.agg Y)).run P w = .ok r w
  | 0, D, t, X, Y, r, _, _, h, w => by simp [eqC] at h
  | d + 1, D, t, X, Y, r, hD, ha, h, w => by
    obtain ⟨D, rfl⟩ : ∃ D', D = D' + 1 := ⟨D - 1, by omega⟩
    have hpart : ∀ (e : TypeId) (o : Nat) (r : Bool), eqC P d e ((X.toList.drop o).take (P.cellsOf e)) ((Y.toList.drop o).take (P.cellsOf e)) = some r → EqP P D e r X Y o := fun e o r he => by
      by_cases hag : isAggT P e = some true
      · obtain ⟨i, hi⟩ : ∃ i, P.info? e = some i := by
          cases d with
          | zero => simp [eqC] at he
          | succ d =>
            simp only [eqC] at he
            split at he <;> first | exact ⟨_, by assumption⟩ | cases he
        have hs : sizeT P e = some (P.cellsOf e) := by simp [sizeT, hi, cellsOf_size hi]
        refine ⟨.agg (X.extract o (o + P.cellsOf e)), .agg (Y.extract o (o + P.cellsOf e)), fun w => ⟨?_, ?_, ?_⟩⟩
        · unfold part; rw [Sem.run_bind, run_isAggT w hag]; simp [run_sizeT w hs]
        · unfold part; rw [Sem.run_bind, run_isAggT w hag]; simp [run_sizeT w hs]
        · refine eqC_whole d D e _ _ r (by omega) hag ?_ w
          simpa using he
      · cases d with
        | zero => simp [eqC] at he
        | succ d =>
          obtain ⟨D, rfl⟩ : ∃ D', D = D' + 1 := ⟨D - 1, by omega⟩
          simp only [eqC] at he
          split at he
          · rename_i hu _; simp [isAggT, hu] at hag
          · rename_i hu _; simp [isAggT, hu] at hag
          · rename_i u i _ _ hu hi
            split at he
            · rename_i a b hxa hyb
              obtain ⟨n1, n2⟩ := eq1_scalar he
              have hag' : isAggT P e = some false := by
                unfold isAggT; rw [hu]
                split
                · rename_i hh; cases hh; exact absurd rfl (n1 _)
                · rename_i hh; cases hh; exact absurd rfl (n2 _ _)
                · rfl
                · rename_i hh; cases hh
              have e1 := getElem?_of_one hxa
              have e2 := getElem?_of_one hyb
              refine ⟨a, b, fun w => ⟨?_, ?_, eq1_sound hu he D w⟩⟩
              · unfold part; rw [Sem.run_bind, run_isAggT w hag']; simp [e1]
              · unfold part; rw [Sem.run_bind, run_isAggT w hag']; simp [e2]
            · cases he
          · cases he
    simp only [eqC] at h
    split at h
    · rename_i hu _
      split at h
      · rename_i i hi
        rw [run_equalIn_array w D _ _ hu hi]
        exact eqA_sound (fun o r => hpart _ o r) _ _ h w
      · cases h
    · rename_i fs i hu hi
      split at h
      · cases h
      · rename_i hst
        have hfs : P.fieldsOf t = fs := by simp [Program.fieldsOf, hu]
        rw [run_equalIn_struct w D t _ _ (by rw [hfs]; exact hu) hst, hfs]
        exact eqF_sound (fun e o r => hpart e o r) _ _ h w
    · rename_i u i n1 n2 hu hi
      split at h
      · rename_i a b hx hy
        obtain ⟨n3, n4⟩ := eq1_scalar h
        unfold isAggT at ha
        rw [hu] at ha
        split at ha
        · rename_i hh; cases hh; exact absurd rfl (n3 _)
        · rename_i hh; cases hh; exact absurd rfl (n4 _ _)
        · cases ha
        · cases ha
      · cases h
    · cases h
theorem binS_sound {op : BinOp} {t : TypeId} {a b : SV} {va vb : Value} {K : SV → Prop} (ha : Rel n ρ σ a va) (hb : Rel n ρ σ b vb) (x y : Operand) (h : binS P op t a b K) :
    ∃ s v, K s ∧ Rel n ρ σ s v ∧ ∀ w, (do eqGuard op t x y va vb; binOp op t va vb).run P w = .ok v w := by
  unfold binS at h
  split at h
  · simp only [Rel] at ha hb
    subst ha hb
    rename_i k p k' q
    have hg := eqGuard_v (P := P) op t x y (.int k p) (.int k' q) rfl
    split at h
    · rw [ob_iff] at h
      refine ⟨_, _, h.2, rfl, fun w => ?_⟩
      have := of_decide_eq_true h.1
      rw [Sem.run_bind, hg]
      simp [binOp, Op.shift, ishl, show ¬ q < 0 by omega]
    · rw [ob_iff] at h
      refine ⟨_, _, h.2, rfl, fun w => ?_⟩
      have := of_decide_eq_true h.1
      rw [Sem.run_bind, hg]
      simp [binOp, Op.shift, ishr, show ¬ q < 0 by omega]
    · split at h
      · rename_i hk
        have := of_decide_eq_true hk; subst this
        obtain ⟨v, h1, h2⟩ := intB_sound (P := P) (t := t) h
        exact ⟨_, v, h1, rfl, fun w => by rw [Sem.run_bind, hg]; exact h2 w⟩
      · exact h.elim
  · simp only [Rel] at ha hb
    subst ha hb
    rename_i p q
    obtain ⟨v, h1, h2⟩ := strB_sound (P := P) (t := t) h
    exact ⟨_, v, h1, rfl, fun w => by rw [Sem.run_bind, eqGuard_v _ _ _ _ _ _ rfl]; exact h2 w⟩
  · simp only [Rel] at ha hb
    subst ha hb
    split at h
    · rename_i hu
      split at h
      · exact ⟨_, _, h, rfl, fun w => by rw [Sem.run_bind, eqGuard_v _ _ _ _ _ _ rfl]; exact run_eqlS (run_eqn_bool 9999 hu _ _) w (fun w => by simp [binOp])⟩
      · exact ⟨_, _, h, rfl, fun w => by rw [Sem.run_bind, eqGuard_v _ _ _ _ _ _ rfl]; exact run_neqS (run_eqn_bool 9999 hu _ _) w (fun w => by simp [binOp])⟩
      · exact h.elim
    · exact h.elim
  · simp only [Rel] at ha hb
    subst ha hb
    split at h
    · rename_i hu
      split at h
      · exact ⟨_, _, h, rfl, fun w => by rw [Sem.run_bind, eqGuard_v _ _ _ _ _ _ rfl]; exact run_eqlS (run_eqn_nil_nil 9999 hu) w (fun w => by simp [binOp])⟩
      · exact ⟨_, _, h, rfl, fun w => by rw [Sem.run_bind, eqGuard_v _ _ _ _ _ _ rfl]; exact run_neqS (run_eqn_nil_nil 9999 hu) w (fun w => by simp [binOp])⟩
      · exact h.elim
    · exact h.elim
  · simp only [Rel] at ha hb
    subst hb
    obtain ⟨_, rfl⟩ := ha
    split at h
    · rename_i hu
      split at h
      · exact ⟨_, _, h, rfl, fun w => by rw [Sem.run_bind, eqGuard_v _ _ _ _ _ _ rfl]; exact run_eqlS (run_eqn_ptr_nil 9999 hu _) w (fun w => by simp [binOp])⟩
      · exact ⟨_, _, h, rfl, fun w => by rw [Sem.run_bind, eqGuard_v _ _ _ _ _ _ rfl]; exact run_neqS (run_eqn_ptr_nil 9999 hu _) w (fun w => by simp [binOp])⟩
      · exact h.elim
    · exact h.elim
  · simp only [Rel] at ha hb
    subst ha hb
    split at h
    · rename_i hu
      split at h
      · rename_i he hi hc hg
        rw [ob_iff, Bool.and_eq_true, decide_eq_true_eq, decide_eq_true_eq] at h
        obtain ⟨⟨h1, h2⟩, h⟩ := h
        rw [Bool.and_eq_true, decide_eq_true_eq] at hc
        obtain ⟨hc, rfl⟩ := hc
        have hc := Nat.eq_of_beq_eq_true hc
        split at h
        · exact ⟨_, _, h, rfl, fun w => by rw [Sem.run_bind, eqGuard_agg hg]; exact run_eqlS (run_eqn_ints 9998 hu he hi hc h1 h2) w (fun w => by simp [binOp])⟩
        · exact ⟨_, _, h, rfl, fun w => by rw [Sem.run_bind, eqGuard_agg hg]; exact run_neqS (run_eqn_ints 9998 hu he hi hc h1 h2) w (fun w => by simp [binOp])⟩
        · exact h.elim
      · exact h.elim
    · exact h.elim
  · simp only [Rel] at ha hb
    obtain ⟨X, rfl, hX⟩ := ha
    obtain ⟨Y, rfl, hY⟩ := hb
    split at h
    · rename_i hag hl hl' hg
      split at h
      · rename_i r hr
        have e1 := toV_rel hl hX
        have e2 := toV_rel hl' hY
        rw [← e1, ← e2] at hr
        split at h
        · exact ⟨_, _, h, rfl, fun w => by rw [Sem.run_bind, eqGuard_agg hg]; exact run_eqlS (eqC_whole 20 _ t X Y r (by omega) hag hr) w (fun w => by simp [binOp])⟩
        · exact ⟨_, _, h, rfl, fun w => by rw [Sem.run_bind, eqGuard_agg hg]; exact run_neqS (eqC_whole 20 _ t X Y r (by omega) hag hr) w (fun w => by simp [binOp])⟩
        · exact h.elim
      · exact h.elim
    · exact h.elim
  · simp only [Rel] at ha hb
    subst ha hb
    split at h
    · rename_i hu
      split at h
      · exact ⟨_, _, h, rfl, fun w => by rw [Sem.run_bind, eqGuard_v _ _ _ _ _ _ rfl]; exact run_eqlS (run_eqn_mnil 9999 hu) w (fun w => by simp [binOp])⟩
      · exact ⟨_, _, h, rfl, fun w => by rw [Sem.run_bind, eqGuard_v _ _ _ _ _ _ rfl]; exact run_neqS (run_eqn_mnil 9999 hu) w (fun w => by simp [binOp])⟩
      · exact h.elim
    · exact h.elim
  · simp only [Rel] at ha hb
    subst hb
    obtain ⟨_, rfl⟩ := ha
    split at h
    · rename_i hu
      split at h
      · exact ⟨_, _, h, rfl, fun w => by rw [Sem.run_bind, eqGuard_v _ _ _ _ _ _ rfl]; exact run_eqlS (run_eqn_map_nil 9999 hu _) w (fun w => by simp [binOp])⟩
      · exact ⟨_, _, h, rfl, fun w => by rw [Sem.run_bind, eqGuard_v _ _ _ _ _ _ rfl]; exact run_neqS (run_eqn_map_nil 9999 hu _) w (fun w => by simp [binOp])⟩
      · exact h.elim
    · exact h.elim
  · simp only [Rel] at ha hb
    subst hb
    obtain ⟨_, rfl⟩ := ha
    split at h
    · rename_i hu
      split at h
      · exact ⟨_, _, h, rfl, fun w => by rw [Sem.run_bind, eqGuard_v _ _ _ _ _ _ rfl]; exact run_eqlS (run_eqn_ptr_nil 9999 hu _) w (fun w => by simp [binOp])⟩
      · exact ⟨_, _, h, rfl, fun w => by rw [Sem.run_bind, eqGuard_v _ _ _ _ _ _ rfl]; exact run_neqS (run_eqn_ptr_nil 9999 hu _) w (fun w => by simp [binOp])⟩
      · exact h.elim
    · exact h.elim
  · simp only [Rel] at ha hb
    subst hb
    split at h
    · rename_i hu
      obtain ⟨_, _, ha⟩ := ha
      rcases ha with ⟨rfl, _, h0⟩ | ⟨o, c0, rfl, _⟩
      · subst h0
        split at h
        · refine ⟨.v (.bool true), .bool true, ((bc_iff.1 h).2 rfl).2, rfl, fun w => by rw [Sem.run_bind, eqGuard_v _ _ _ _ _ _ rfl]; exact run_eqlS (run_eqn_snil 9999 hu _ _ _ _) w (fun w => by simp [binOp])⟩
        · refine ⟨.v (.bool false), .bool false, ((bc_iff.1 h).2 rfl).2, rfl, fun w => by rw [Sem.run_bind, eqGuard_v _ _ _ _ _ _ rfl]; exact run_neqS (run_eqn_snil 9999 hu _ _ _ _) w (fun w => by simp [binOp])⟩
        · exact h.elim
      · split at h
        · refine ⟨.v (.bool false), .bool false, ?_, rfl, fun w => by rw [Sem.run_bind, eqGuard_v _ _ _ _ _ _ rfl]; exact run_eqlS (run_eqn_slice_nil 9999 hu _ _ _ _ _) w (fun w => by simp [binOp])⟩
          exact bc_left h
        · refine ⟨.v (.bool true), .bool true, ?_, rfl, fun w => by rw [Sem.run_bind, eqGuard_v _ _ _ _ _ _ rfl]; exact run_neqS (run_eqn_slice_nil 9999 hu _ _ _ _ _) w (fun w => by simp [binOp])⟩
          exact bc_left h
        · exact h.elim
    · exact h.elim
  · simp only [Rel] at ha hb
    subst ha hb
    split at h
    · rename_i hu
      split at h
      · exact ⟨_, _, h, rfl, fun w => by rw [Sem.run_bind, eqGuard_v _ _ _ _ _ _ rfl]; exact run_eqlS (run_eqn_snil 9999 hu _ _ _ _) w (fun w => by simp [binOp])⟩
      · exact ⟨_, _, h, rfl, fun w => by rw [Sem.run_bind, eqGuard_v _ _ _ _ _ _ rfl]; exact run_neqS (run_eqn_snil 9999 hu _ _ _ _) w (fun w => by simp [binOp])⟩
      · exact h.elim
    · exact h.elim
  · simp only [Rel] at ha hb
    subst ha hb
    split at h
    · rename_i hk
      have hk := of_decide_eq_true hk
      subst hk
      split at h
      · rename_i v hv
        refine ⟨_, _, h, rfl, fun w => ?_⟩
        rw [Sem.run_bind, eqGuard_v _ _ _ _ _ _ rfl]
        simp only [binOp]
        rw [hv, if_neg (fun hx => hx rfl)]; rfl
      · exact h.elim
    · exact h.elim
  · exact h.elim
end

end Go.Proofs.YtmnenigmkfnciaaGreatDoor.Sx
