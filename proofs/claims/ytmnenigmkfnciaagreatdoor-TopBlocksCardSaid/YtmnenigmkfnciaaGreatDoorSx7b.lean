/- 'append', 'copy' and 'clear' in the walk by computation. No condition. -/
import Derived.Test.YtmnenigmkfnciaaGreatDoorSx8
import Derived.Laws.AppendOwn
namespace Go.Proofs.YtmnenigmkfnciaaGreatDoor.Sx
open Go
set_option linter.unusedSimpArgs false
set_option linter.unusedVariables false
variable {ds : List Deferred}

def cutL {α : Type} (o n : Nat) (l : List α) : List α := (l.drop o).take n

/-- Rows from a row on. -/
def shCol (q : Nat) : Col → Col
  | .i k f => .i k fun r => f (r + q)
  | .s f => .s fun r => f (r + q)
  | .b f => .b fun r => f (r + q)
theorem shCol_at (q r : Nat) (c : Col) : (shCol q c).at r = c.at (r + q) := by cases c <;> rfl
theorem shift_row (q r : Nat) (cols : List Col) : rowL (cols.map (shCol q)) r = rowL cols (r + q) := by
  simp only [rowL, List.map_map]
  exact List.map_congr_left fun c _ => shCol_at q r c
theorem rowsL_shift (q : Nat) (cols : List Col) : ∀ m, rowsL cols (q + m) = rowsL cols q ++ rowsL (cols.map (shCol q)) m
  | 0 => by simp [rowsL]
  | m + 1 => by rw [← Nat.add_assoc, rowsL, rowsL_shift q cols m, rowsL, shift_row, Nat.add_comm m q, List.append_assoc]
theorem rowsL_cut (cols : List Col) (q m n : Nat) (h : q + m ≤ n) : ((rowsL cols n).drop (q * cols.length)).take (m * cols.length) = rowsL (cols.map (shCol q)) m := by
  obtain ⟨k, rfl⟩ := Nat.exists_eq_add_of_le h
  rw [rowsL_shift (q + m) cols k, rowsL_shift q cols m, List.append_assoc, List.drop_left' (rowsL_len cols q), List.take_left' (by rw [rowsL_len]; simp)]
/-- Rows behind rows: rows of literal cells; rows of a table. -/
def addRows (sz : Nat) : Nat → List Col → Nat → List SV → Option (List Col × Nat)
  | 0, _, _, _ => none
  | f + 1, cols, n, l => match l with
    | [] => some (cols, n)
    | _ :: _ => match Nat.ble sz l.length, updCols cols 0 n (l.take sz) with
      | true, some cols' => addRows sz f cols' (n + 1) (l.drop sz)
      | _, _ => none
def catCol (n : Nat) : Col → Col → Option Col
  | .i k f, .i k' g => match decide (k = k') with
    | true => some (.i k fun r => cond (Nat.blt r n) (f r) (g (r - n)))
    | false => none
  | .s f, .s g => some (.s fun r => cond (Nat.blt r n) (f r) (g (r - n)))
  | .b f, .b g => some (.b fun r => cond (Nat.blt r n) (f r) (g (r - n)))
  | _, _ => none
def catCols (n : Nat) : List Col → List Col → Option (List Col)
  | [], [] => some []
  | a :: l, b :: m => match catCol n a b, catCols n l m with
    | some c, some r => some (c :: r)
    | _, _ => none
  | _, _ => none
theorem blt_t {r n : Nat} (h : r < n) : Nat.blt r n = true := Nat.ble_eq.mpr h
theorem blt_f {r n : Nat} (h : ¬ r < n) : Nat.blt r n = false := by
  cases hb : Nat.blt r n with
  | false => rfl
  | true => exact absurd (Nat.le_of_ble_eq_true hb) h
theorem catCol_at {n : Nat} {a b c : Col} (h : catCol n a b = some c) (r : Nat) : c.at r = if r < n then a.at r else b.at (r - n) := by
  unfold catCol at h
  split at h
  · split at h
    · rename_i hk
      have := of_decide_eq_true hk; subst this
      simp only [Option.some.injEq] at h; subst h
      by_cases hr : r < n
      · simp [Col.at, blt_t hr, hr]
      · simp [Col.at, blt_f hr, hr]
    · cases h
  · simp only [Option.some.injEq] at h; subst h
    by_cases hr : r < n
    · simp [Col.at, blt_t hr, hr]
    · simp [Col.at, blt_f hr, hr]
  · simp only [Option.some.injEq] at h; subst h
    by_cases hr : r < n
    · simp [Col.at, blt_t hr, hr]
    · simp [Col.at, blt_f hr, hr]
  · cases h
theorem catCols_row {n : Nat} : ∀ {l m c : List Col}, catCols n l m = some c → c.length = l.length ∧ c.length = m.length ∧ ∀ r, rowL c r = if r < n then rowL l r else rowL m (r - n)
  | [], [], c, h => by simp [catCols] at h; subst h; exact ⟨rfl, rfl, fun r => by simp [rowL]⟩
  | a :: l, b :: m, c, h => by
    simp only [catCols] at h
    split at h
    · rename_i x y hx hy
      simp only [Option.some.injEq] at h; subst h
      obtain ⟨h1, h2, h3⟩ := catCols_row hy
      refine ⟨by simp [h1], by simp [h2], fun r => ?_⟩
      have h4 := h3 r
      have h5 := catCol_at hx r
      simp only [rowL, List.map_cons] at h4 ⊢
      by_cases hr : r < n
      · rw [if_pos hr] at h4 h5 ⊢; rw [h4, h5]
      · rw [if_neg hr] at h4 h5 ⊢; rw [h4, h5]
    · cases h
  | [], _ :: _, c, h => by simp [catCols] at h
  | _ :: _, [], c, h => by simp [catCols] at h
theorem catCols_rows {n : Nat} {l m c : List Col} (h : catCols n l m = some c) : ∀ k, rowsL c (n + k) = rowsL l n ++ rowsL m k
  | 0 => by
    obtain ⟨_, _, h3⟩ := catCols_row h
    simp only [rowsL, List.append_nil, Nat.add_zero]
    have : ∀ j, j ≤ n → rowsL c j = rowsL l j := by
      intro j
      induction j with
      | zero => intro _; rfl
      | succ j ih => intro hj; rw [rowsL, rowsL, ih (by omega), h3 j, if_pos (by omega)]
    exact this n (Nat.le_refl _)
  | k + 1 => by
    obtain ⟨_, _, h3⟩ := catCols_row h
    rw [← Nat.add_assoc, rowsL, catCols_rows h k, rowsL, h3 (n + k), if_neg (by omega), Nat.add_sub_cancel_left, List.append_assoc]
theorem updCols_new {k : Nat} {ρ : Nat → Nat} {σ : Nat → Nat × Nat} {cols cols' : List Col} {n : Nat} {l : List SV} {vs : List Value} (h : updCols cols 0 n l = some cols') (hl : l.length = cols.length) (hv : RelL k ρ σ l vs) : cols'.length = cols.length ∧ rowsL cols' (n + 1) = rowsL cols n ++ vs := by
  obtain ⟨h1, _, _, h4⟩ := updCols_spec (n := n + 1) (by omega) h hv
  refine ⟨h1, ?_⟩
  have h5 := h4 (by omega)
  have hvl := hv.length
  rw [h5, rowsL, Nat.add_zero]
  have e1 : (rowsL cols n).length = n * cols.length := rowsL_len cols n
  unfold putAt
  rw [List.take_left' e1, List.drop_of_length_le (by rw [List.length_append, e1, rowL_len]; omega), List.append_nil]
theorem addRows_spec {k sz : Nat} {ρ : Nat → Nat} {σ : Nat → Nat × Nat} (hsz : 0 < sz) : ∀ {f : Nat} {cols cols' : List Col} {n n' : Nat} {l : List SV} {vs : List Value}, addRows sz f cols n l = some (cols', n') → cols.length = sz → RelL k ρ σ l vs → cols'.length = sz ∧ rowsL cols' n' = rowsL cols n ++ vs
  | 0, cols, cols', n, n', l, vs, h, _, _ => by simp [addRows] at h
  | f + 1, cols, cols', n, n', l, vs, h, hc, hv => by
    simp only [addRows] at h
    split at h
    · simp only [Option.some.injEq, Prod.mk.injEq] at h
      obtain ⟨rfl, rfl⟩ := h
      simp only [RelL] at hv; subst hv
      exact ⟨hc, by simp⟩
    · rename_i a l'
      split at h
      · rename_i cols1 hle hu
        have hle := Nat.le_of_ble_eq_true hle
        obtain ⟨h1, h2⟩ := updCols_new hu (by rw [List.length_take, hc]; omega) (hv.take sz)
        obtain ⟨h3, h4⟩ := addRows_spec hsz h (by omega) (hv.drop sz)
        exact ⟨h3, by rw [h4, h2, List.append_assoc, List.take_append_drop]⟩
      · cases h
/-- What is to be put behind a slice, or over one: how many elements, which cells. -/
def newsB (tbl : List Blk) (x : SV) (sz : Nat) (K : Nat → Blk → Prop) : Prop :=
  match x with
  | .v (.slice none 0 0) => K 0 (.cells true [])
  | .v (.string s) => match sz with
    | 1 => K s.size (.ints true .u8 (bytesL s))
    | _ => False
  | .slc j off m _ s => match Nat.beq s sz, nth tbl j with
    | true, some (.ints _ k l) => match sz with
      | 1 => ob (Nat.ble (off + m) l.length) (K m (.ints true k (cutL off m l)))
      | _ => ob (Nat.ble (off + m * sz) l.length) (K m (.ints true k (cutL off (m * sz) l)))
    | true, some (.cells _ l) => ob (Nat.ble (off + m * sz) l.length && allOne (cutL off (m * sz) l)) (K m (.cells true (cutL off (m * sz) l)))
    | true, some (.tab _ n cols) => match Nat.beq cols.length sz, Nat.ble 1 sz with
      | true, true => ob (Nat.beq (off % sz) 0 && Nat.ble (off / sz + m) n) (K m (.tab true m (cols.map (shCol (off / sz)))))
      | _, _ => False
    | _, _ => False
  | _ => False
/-- Cells behind cells. -/
def joinB (b nb : Blk) (n : Nat) (K : Blk → Prop) : Prop :=
  match b with
  | .ints true k l => match nb.nums k with
    | some y => ob (Nat.beq l.length n) (K (.ints true k (l ++ y)))
    | none => False
  | .cells true l => match nb with
    | .cells _ c => ob (Nat.beq l.length n) (K (.cells true (l ++ c)))
    | .ints _ k y => match toInts k l with
      | some x => ob (Nat.beq x.length n) (K (.ints true k (x ++ y)))
      | none => False
    | .tab _ m cols => match l with
      | [] => ob (Nat.beq 0 n) (K (.tab true m cols))
      | _ :: _ => False
    | _ => False
  | .tab true q cols => match nb with
    | .cells _ c => match Nat.ble 1 cols.length, addRows cols.length (c.length + 1) cols q c with
      | true, some (cols', q') => ob (Nat.beq (q * cols.length) n) (K (.tab true q' cols'))
      | _, _ => False
    | .tab _ m cols2 => match catCols q cols cols2 with
      | some cols' => ob (Nat.beq (q * cols.length) n) (K (.tab true (q + m) cols'))
      | none => False
    | _ => False
  | _ => False
/-- The first cells of a block over another's. -/
def overB (b nb : Blk) (off n : Nat) (K : Blk → Prop) : Prop :=
  match b with
  | .ints true k l => match nb.nums k with
    | some y => ob (Nat.ble n y.length && Nat.ble (off + n) l.length) (K (.ints true k (putAt l off (y.take n))))
    | none => False
  | .cells true l => match nb with
    | .cells _ c => ob (Nat.ble n c.length && Nat.ble (off + n) l.length) (K (.cells true (putAt l off (c.take n))))
    | .ints _ k y => match toInts k l with
      | some x => ob (Nat.ble n y.length && Nat.ble (off + n) x.length) (K (.ints true k (putAt x off (y.take n))))
      | none => False
    | _ => False
  | _ => False
def noIntT (P : Program) (t : TypeId) : Bool := match P.underlying t with
  | some (.slice _) => true
  | some .string => true
  | _ => false
def nilB (P : Program) (e : TypeId) : Blk := match kindT P e with
  | some k => .ints true k []
  | none => .cells true []
def mvOf (n0 j : Nat) (mv : List Nat) : List Nat := match Nat.ble n0 j with
  | true => mv
  | false => j :: mv

/-- append(s, x...), x as these cells. -/
def appC (P : Program) (st : St) (s : SV) (e : TypeId) (sz bytes : Nat) (K : SV → St → Prop) (m : Nat) (nb : Blk) : Prop :=
  match s with
  | .v (.slice none 0 0) => joinB (nilB P e) nb 0 fun b => ob (decide (m * bytes ≤ 140737488355328)) (K (.slc st.tbl.length 0 m m (sz + 1)) { st with tbl := st.tbl ++ [b] })
  | .slc j off len _ s' => match Nat.beq off 0, Nat.beq s' (sz + 1), nth st.tbl j with
    | true, true, some b => joinB b nb (len * (sz + 1)) fun b' => ob (decide ((len + m) * bytes ≤ 140737488355328))
        (K (.slc j 0 (len + m) (len + m) (sz + 1)) { st with env := purgeEnv [j] st.env, tbl := (st.tbl.set j b').map (Blk.purge [j]), mv := mvOf st.n0 j st.mv })
    | _, _, _ => False
  | _ => False
/-- append(s, x...); x may be 'make([]T, m)', told by m. -/
def appM (P : Program) (st : St) (s x : SV) (t t' : TypeId) (K : SV → St → Prop) : Prop :=
  match P.underlying t, noIntT P t' with
  | some (.slice e), true => match P.info? e, zeroT P e with
    | some i, some z => match Nat.beq z.length i.size && Nat.ble 1 i.bytes, i.size with
      | true, sz + 1 => newsB st.tbl x (sz + 1) (appC P st s e sz i.bytes K)
      | _, _ => False
    | _, _ => False
  | some (.slice e), false => match P.info? e, zeroT P e, kindT P t', x with
    | some i, some [.int k 0], some .i64, .v (.int .i64 m) => match Nat.beq i.size 1 && Nat.ble 1 i.bytes with
      | true => ob (decide (0 ≤ m) && decide (m.toNat * i.bytes ≤ 140737488355328)) (appC P st s e 0 i.bytes K m.toNat (.ints true k (List.replicate m.toNat 0)))
      | false => False
    | _, _, _, _ => False
  | _, _ => False

/-- copy(s, x). -/
def copyM (P : Program) (st : St) (s x : SV) (t : TypeId) (K : SV → St → Prop) : Prop :=
  match P.underlying t with
  | some (.slice e) => match sizeT P e with
    | some sz => newsB st.tbl x sz fun m nb =>
      match s with
      | .slc j off len _ s' => match Nat.beq s' sz, nth st.tbl j with
        | true, some b => overB b nb off (Nat.min m len * sz) fun b' => K (.v (.int .i64 (Nat.min m len : Nat))) { st with tbl := st.tbl.set j b' }
        | _, _ => False
      | _ => False
    | none => False
  | _ => False

/-- 'copy' out of a slice of which no more is known than goes over. -/
def copyX (P : Program) (st : St) (s x : SV) (t : TypeId) (K : SV → St → Prop) : Prop :=
  match P.underlying t, s, x with
  | some (.slice e), .slc j off len _ s', .slc i o m c q => match sizeT P e with
    | some sz => newsB st.tbl (.slc i o (Nat.min m len) c q) sz fun _ nb =>
      match Nat.beq s' sz, nth st.tbl j with
        | true, some b => overB b nb off (Nat.min m len * sz) fun b' => K (.v (.int .i64 (Nat.min m len : Nat))) { st with tbl := st.tbl.set j b' }
        | _, _ => False
    | none => False
  | _, _, _ => False
/-- Is there more in the source than is known? -/
def unkS (tbl : List Blk) (x : SV) : Bool := match x with
  | .slc i o m _ q => match nth tbl i with
    | some (.cells _ l) => !allOne (cutL o (m * q) l)
    | _ => false
  | _ => false
/-- clear(s). -/
def clearM (P : Program) (st : St) (s : SV) (t : TypeId) (K : SV → St → Prop) : Prop :=
  match P.underlying t, s with
  | some (.slice e), .slc j off len _ s' => match sizeT P e, kindT P e, zeroT P e with
    | some 1, some k, some [.int k' 0] => match decide (k' = k), Nat.beq s' 1, nth st.tbl j with
      | true, true, some b => overB b (.ints true k (List.replicate len 0)) off len fun b' => K (.tup []) { st with tbl := st.tbl.set j b' }
      | _, _, _ => False
    | _, _, _ => False
  | _, _ => False

/-- append(s, x...), x in the block of s, which has room: in place. -/
def appI (P : Program) (st : St) (s x : SV) (t t' : TypeId) (K : SV → St → Prop) : Prop :=
  match P.underlying t, noIntT P t' with
  | some (.slice e), true => match P.info? e with
    | some i => newsB st.tbl x i.size fun m nb =>
      match s with
      | .slc j off len cp s' => match Nat.beq s' i.size, nth st.tbl j with
        | true, some b => ob (decide (len + m ≤ cp)) (overB b nb (off + len * i.size) (m * i.size) fun b' => K (.slc j off (len + m) cp s') { st with tbl := st.tbl.set j b' })
        | _, _ => False
      | _ => False
    | none => False
  | _, _ => False
def sameBlk (s x : SV) : Bool := match s, x with
  | .slc j _ _ _ _, .slc j' _ _ _ _ => Nat.beq j j'
  | _, _ => false
/-- clear(s), s of structs of numbers. -/
def zkind : List Value → Option IntKind
  | .int k 0 :: r => match allZ k r with
    | true => some k
    | false => none
  | _ => none
  where allZ (k : IntKind) : List Value → Bool
  | [] => true
  | .int k' 0 :: r => decide (k' = k) && allZ k r
  | _ => false
def oneAll : List Value → Bool
  | [] => true
  | v :: r => v.oneCell' && oneAll r
theorem oneAll_spec : ∀ {l : List Value}, oneAll l = true → ∀ v ∈ l, v.oneCell' = true
  | [], _, v, hv => by simp at hv
  | x :: r, h, v, hv => by
    simp only [oneAll, Bool.and_eq_true] at h
    rcases List.mem_cons.1 hv with rfl | hv
    · exact h.1
    · exact oneAll_spec h.2 v hv
def repV (z : List Value) : Nat → List Value
  | 0 => []
  | n + 1 => z ++ repV z n
theorem repV_eq (z : List Value) : ∀ n, repV z n = (List.replicate n z).flatten
  | 0 => rfl
  | n + 1 => by rw [repV, repV_eq z n, List.replicate_succ, List.flatten_cons]
def clearS (P : Program) (st : St) (s : SV) (t : TypeId) (K : SV → St → Prop) : Prop :=
  match P.underlying t, s with
  | some (.slice e), .slc j off len _ s' => match sizeT P e, zeroT P e with
    | some sz, some z => match zkind z, Nat.beq z.length sz, Nat.beq s' sz, nth st.tbl j with
      | some k, true, true, some b => overB b (.ints true k (List.replicate (len * sz) 0)) off (len * sz) fun b' => K (.tup []) { st with tbl := st.tbl.set j b' }
      | none, true, true, some b => match oneAll z with
        | true => overB b (.cells true ((repV z len).map SV.v)) off (len * sz) fun b' => K (.tup []) { st with tbl := st.tbl.set j b' }
        | false => False
      | _, _, _, _ => False
    | _, _ => False
  | _, _ => False
/-- 'clear' of a table's last rows: they are not told any more. -/
def clearT (P : Program) (st : St) (s : SV) (t : TypeId) (K : SV → St → Prop) : Prop :=
  match P.underlying t, s with
  | some (.slice e), .slc j off len _ s' => match sizeT P e, zeroT P e, nth st.tbl j with
    | some sz, some z, some (.tab true q cols) => match (Nat.beq z.length sz && Nat.beq s' sz) && (Nat.beq cols.length sz && oneAll z) with
      | true => ob (Nat.beq (off % sz) 0 && Nat.ble (off / sz + len) q) (K (.tup []) { st with tbl := st.tbl.set j (.tab true (off / sz) cols) })
      | false => False
    | _, _, _ => False
  | _, _ => False
def isTabS (tbl : List Blk) (s : SV) : Bool := match s with
  | .slc j _ _ _ _ => match nth tbl j with
    | some (.tab _ _ _) => true
    | _ => false
  | _ => false
def isScT (P : Program) (t : TypeId) : Bool := match P.underlying t with
  | some (.slice e) => match kindT P e with
    | some _ => true
    | none => false
  | _ => false

/-- delete(m, k). -/
def delM (P : Program) (st : St) (m k : SV) (t : TypeId) (K : SV → St → Prop) : Prop :=
  match P.underlying t, m, k with
  | some (.map kt _), .mp i, .v (.int a x) => match P.underlying kt, nth st.tbl i with
    | some (.int _), some (.map true pl (.i b l) g) => match decide (a = b) with
      | true => K (.tup []) { st with tbl := st.tbl.set i (.map true pl (.i b (delI l x)) g) }
      | false => False
    | _, _ => False
  | _, _, _ => False
def builtinM (P : Program) (st : St) (c : Call) (b : Builtin) (K : SV → St → Prop) : Prop :=
  match b, evs st.env c.args.toList, c.argTypes.toList with
  | .append, some [s, x], [t, t'] => match sameBlk s x with
    | true => appI P st s x t t' K
    | false => appM P st s x t t' K
  | .copy, some [s, x], [t, _] => match unkS st.tbl x with
    | true => copyX P st s x t K
    | false => copyM P st s x t K
  | .clear, some [s], [t] => match isScT P t with
    | true => clearM P st s t K
    | false => match isTabS st.tbl s with
      | true => clearT P st s t K
      | false => clearS P st s t K
  | .delete, some [m, k], t :: _ => delM P st m k t K
  | _, _, _ => False

section
variable {P : Program} {ρ : Nat → Nat} {σ : Nat → Nat × Nat} {B : Base} {tbl : List Blk} {w : World}

theorem bytesL_map (s : ByteArray) : (bytesL s).map (Value.int .u8) = s.data.toList.map fun b => Value.int .u8 b.toNat := by
  simp [bytesL]

theorem newsB_sound {x : SV} {vx : Value} {sz : Nat} {K : Nat → Blk → Prop} (hT : TOK ρ σ B tbl w) (hx : Rel tbl.length ρ σ x vx) (h : newsB tbl x sz K) :
    ∃ m nb news, K m nb ∧ Pre tbl.length ρ σ nb news ∧ (∀ v ∈ news, v.oneCell' = true) ∧ news.length = m * sz ∧ (∀ w', (Builtin.lenOf vx).run P w' = .ok m w') ∧
      ∀ n w', n ≤ m → w'.heap = w.heap → (Builtin.firstCells sz n vx).run P w' = .ok (news.take (n * sz)).toArray w' := by
  unfold newsB at h
  split at h
  · simp only [Rel] at hx
    subst hx
    exact ⟨0, _, [], h, by simp [Pre, RelL], by simp, by simp, fun w' => by simp [Builtin.lenOf], fun n w' hn _ => by simp [Builtin.firstCells]⟩
  · rename_i s
    simp only [Rel] at hx
    subst hx
    split at h
    · refine ⟨s.size, _, (bytesL s).map (Value.int .u8), h, rfl, by simp [Value.oneCell'], by simp [bytesL], fun w' => by simp [Builtin.lenOf], fun n w' hn _ => ?_⟩
      simp only [Builtin.firstCells, Sem.run_pure, bytesL_map, Nat.mul_one]
      congr 1
      apply Array.ext'
      simp [ByteArray.data_extract]
    · exact h.elim
  · rename_i j off m cp s
    simp only [Rel] at hx
    obtain ⟨hj, hmc, hx⟩ := hx
    -- the cells, once the block is known
    have key : ∀ b pre, nth tbl j = some b → b.isDead = false → Pre tbl.length ρ σ b pre → s = sz → off + m * sz ≤ pre.length →
        (∃ pre', Pre tbl.length ρ σ b pre' ∧ off + m * sz ≤ pre'.length ∧ ∀ n w', n ≤ m → w'.heap = w.heap → (Builtin.firstCells sz n vx).run P w' = .ok (((pre'.drop off).take (m * sz)).take (n * sz)).toArray w') ∧ ∀ w', (Builtin.lenOf vx).run P w' = .ok m w' := by
      intro b pre hb hd hp hs hle
      subst hs
      rcases hx with ⟨rfl, rfl, _⟩ | ⟨o, c, rfl, hc, ho, hos⟩
      · exact ⟨⟨pre, hp, hle, fun n w' hn _ => by simp [Builtin.firstCells]⟩, fun w' => by simp [Builtin.lenOf]⟩
      · refine ⟨?_, fun w' => by simp [Builtin.lenOf]⟩
        rw [nth_eq] at hb
        by_cases hm : m * s = 0
        · refine ⟨pre, hp, hle, fun n w' hn hw' => ?_⟩
          have hn0 : n * s = 0 := Nat.le_zero.1 (hm ▸ Nat.mul_le_mul_right s hn)
          simp [Builtin.firstCells, hn0, loadCells, loadCellsFrom]
        · have hc0 : c ≠ 0 := by rintro rfl; have : m = 0 := by omega
                                 simp [this] at hm
          have ho : o = off := ho.resolve_right hc0
          subst ho
          have hcs : m * s ≤ c * s := Nat.mul_le_mul_right s (by omega)
          rcases hT.lies j b hb hd with ⟨h0, _⟩ | ⟨pre', hp', hl⟩
          · omega
          · have e : pre'.length = pre.length := by rw [hp.length, hp'.length]
            refine ⟨pre', hp', by omega, fun n w' hn hw' => ?_⟩
            have hns : n * s ≤ m * s := Nat.mul_le_mul_right s hn
            have := run_loadCells_lies (P := P) (w := w') (hl.of_block (by rw [hw'])) o (n * s) (by omega)
            rw [List.take_take, Nat.min_eq_left hns]
            simpa [Builtin.firstCells] using this
    split at h
    · rename_i w0 k l hs hb
      have hs := Nat.eq_of_beq_eq_true hs
      split at h
      · rw [ob_iff] at h
        have hle := Nat.le_of_ble_eq_true h.1
        obtain ⟨⟨pre', hp', hle', hf⟩, hlen⟩ := key _ (l.map (Value.int k)) hb rfl rfl hs (by simpa using hle)
        simp only [Pre] at hp'
        subst hp'
        simp only [Nat.mul_one] at hf
        refine ⟨m, _, (cutL off m l).map (Value.int k), h.2, rfl, by simp [Value.oneCell'], by simp [cutL]; omega, hlen, fun n w' hn hw' => ?_⟩
        have := hf n w' hn hw'
        simp only [cutL, List.map_take, List.map_drop, Nat.mul_one]
        exact this
      · rw [ob_iff] at h
        have hle := Nat.le_of_ble_eq_true h.1
        obtain ⟨⟨pre', hp', hle', hf⟩, hlen⟩ := key _ (l.map (Value.int k)) hb rfl rfl hs (by simpa using hle)
        simp only [Pre] at hp'
        subst hp'
        refine ⟨m, _, (cutL off (m * sz) l).map (Value.int k), h.2, rfl, by simp [Value.oneCell'], by simp [cutL]; omega, hlen, fun n w' hn hw' => ?_⟩
        have := hf n w' hn hw'
        simp only [cutL, List.map_take, List.map_drop]
        exact this
    · rename_i w0 l hs hb
      have hs := Nat.eq_of_beq_eq_true hs
      rw [ob_iff, Bool.and_eq_true] at h
      have hle := Nat.le_of_ble_eq_true h.1.1
      -- which cells: those that lie there
      have hb' := hb
      rw [nth_eq] at hb'
      rcases hT.lies j _ hb' rfl with ⟨h0, hl0⟩ | ⟨pre, hp, _⟩
      · simp only [Blk.len] at hl0
        have hl : l = [] := List.length_eq_zero_iff.1 hl0
        subst hl
        obtain ⟨⟨pre', hp', hle', hf⟩, hlen⟩ := key _ [] hb rfl (by simp [Pre, RelL]) hs (by simpa using hle)
        simp only [Pre] at hp'
        refine ⟨m, _, (pre'.drop off).take (m * sz), h.2, (hp'.drop off).take _, ?_, by simp; omega, hlen, hf⟩
        intro v hv
        exact allOne_rel h.1.2 ((hp'.drop off).take _) v hv
      · obtain ⟨⟨pre', hp', hle', hf⟩, hlen⟩ := key _ pre hb rfl hp hs (by have := hp.length; simp only [Blk.len] at this; omega)
        simp only [Pre] at hp'
        refine ⟨m, _, (pre'.drop off).take (m * sz), h.2, (hp'.drop off).take _, ?_, by simp; omega, hlen, hf⟩
        intro v hv
        exact allOne_rel h.1.2 ((hp'.drop off).take _) v hv
    · rename_i w0 n cols hs hb
      have hs := Nat.eq_of_beq_eq_true hs
      split at h
      · rename_i hcl hsz
        have hcl := Nat.eq_of_beq_eq_true hcl
        have hsz := Nat.le_of_ble_eq_true hsz
        rw [ob_iff, Bool.and_eq_true] at h
        have h0 := Nat.eq_of_beq_eq_true h.1.1
        have h1 := Nat.le_of_ble_eq_true h.1.2
        have hoff : off = off / sz * sz := by have := Nat.div_add_mod off sz; rw [Nat.mul_comm]; omega
        have hle : off + m * sz ≤ (rowsL cols n).length := by
          rw [rowsL_len, hcl, hoff, ← Nat.add_mul]
          exact Nat.mul_le_mul_right _ h1
        obtain ⟨⟨pre', hp', hle', hf⟩, hlen⟩ := key _ (rowsL cols n) hb rfl rfl hs hle
        simp only [Pre] at hp'
        subst hp'
        have hcut : ((rowsL cols n).drop off).take (m * sz) = rowsL (cols.map (shCol (off / sz))) m := by
          have := rowsL_cut cols (off / sz) m n h1
          rw [hcl, ← hoff] at this
          exact this
        rw [hcut] at hf
        refine ⟨m, _, _, h.2, rfl, ?_, by rw [rowsL_len, List.length_map, hcl], hlen, hf⟩
        have hone : ∀ (cols : List Col) (m : Nat), ∀ v ∈ rowsL cols m, v.oneCell' = true := by
          intro cols m
          induction m with
          | zero => intro v hv; simp [rowsL] at hv
          | succ m ih =>
            intro v hv
            rw [rowsL] at hv
            rcases List.mem_append.1 hv with hv | hv
            · exact ih v hv
            · simp only [rowL, List.mem_map] at hv
              obtain ⟨c, _, rfl⟩ := hv
              cases c <;> rfl
        exact hone _ _
      · exact h.elim
    · exact h.elim
  · exact h.elim

theorem toInts_pre {k : IntKind} {l : List SV} {x : List Int} {n : Nat} {u : List Value} (h : toInts k l = some x) (hp : RelL n ρ σ l u) : u = x.map (Value.int k) := toInts_rel h hp

theorem joinB_sound {b nb : Blk} {n N : Nat} {K : Blk → Prop} (h : joinB b nb n K) :
    ∃ b', K b' ∧ b.wr = true ∧ b'.isDead = false ∧ b.len = n ∧ ∀ olds news, Pre N ρ σ b olds → Pre N ρ σ nb news → Pre N ρ σ b' (olds ++ news) := by
  unfold joinB at h
  split at h
  · rename_i k l
    split at h
    · rename_i y hy
      rw [ob_iff] at h
      refine ⟨_, h.2, rfl, rfl, Nat.eq_of_beq_eq_true h.1, fun olds news ho hn => ?_⟩
      simp only [Pre] at ho ⊢
      rw [ho, Blk.nums_pre hy hn, List.map_append]
    · exact h.elim
  · rename_i l
    split at h
    · rename_i w c
      rw [ob_iff] at h
      refine ⟨_, h.2, rfl, rfl, Nat.eq_of_beq_eq_true h.1, fun olds news ho hn => ?_⟩
      simp only [Pre] at ho hn ⊢
      exact RelL.append ho hn
    · rename_i w k y
      split at h
      · rename_i x hx
        rw [ob_iff] at h
        have h1 := Nat.eq_of_beq_eq_true h.1
        refine ⟨_, h.2, rfl, rfl, ?_, fun olds news ho hn => ?_⟩
        · simp only [Blk.len]; rw [← toInts_len _ _ hx]; exact h1
        · simp only [Pre] at ho hn ⊢
          rw [toInts_rel hx ho, hn, List.map_append]
      · exact h.elim
    · rename_i w m cols
      split at h
      · rw [ob_iff] at h
        refine ⟨_, h.2, rfl, rfl, Nat.eq_of_beq_eq_true h.1, fun olds news ho hn => ?_⟩
        simp only [Pre, RelL] at ho hn ⊢
        rw [ho, hn, List.nil_append]
      · exact h.elim
    · exact h.elim
  · rename_i q cols
    split at h
    · rename_i w c
      split at h
      · rename_i cols' q' hpos ha
        rw [ob_iff] at h
        refine ⟨_, h.2, rfl, rfl, Nat.eq_of_beq_eq_true h.1, fun olds news ho hn => ?_⟩
        simp only [Pre] at ho hn ⊢
        rw [ho, (addRows_spec (Nat.le_of_ble_eq_true hpos) ha rfl hn).2]
      · exact h.elim
    · rename_i w m cols2
      split at h
      · rename_i cols' hc
        rw [ob_iff] at h
        refine ⟨_, h.2, rfl, rfl, Nat.eq_of_beq_eq_true h.1, fun olds news ho hn => ?_⟩
        simp only [Pre] at ho hn ⊢
        rw [ho, hn, catCols_rows hc]
      · exact h.elim
    · exact h.elim
  · exact h.elim

theorem overB_sound {b nb : Blk} {off n N : Nat} {K : Blk → Prop} (h : overB b nb off n K) :
    ∃ b', K b' ∧ b.wr = true ∧ b'.isDead = false ∧ ∀ pre news, Pre N ρ σ b pre → Pre N ρ σ nb news → n ≤ news.length ∧ off + n ≤ pre.length ∧ Pre N ρ σ b' (putAt pre off (news.take n)) := by
  unfold overB at h
  split at h
  · rename_i k l
    split at h
    · rename_i y hy
      rw [ob_iff, Bool.and_eq_true] at h
      have h1 := Nat.le_of_ble_eq_true h.1.1
      have h2 := Nat.le_of_ble_eq_true h.1.2
      refine ⟨_, h.2, rfl, rfl, fun olds news ho hn => ?_⟩
      simp only [Pre] at ho ⊢
      rw [ho, Blk.nums_pre hy hn]
      exact ⟨by simpa using h1, by simpa using h2, by rw [putAt_map, List.map_take]⟩
    · exact h.elim
  · rename_i l
    split at h
    · rename_i w c
      rw [ob_iff, Bool.and_eq_true] at h
      have h1 := Nat.le_of_ble_eq_true h.1.1
      have h2 := Nat.le_of_ble_eq_true h.1.2
      refine ⟨_, h.2, rfl, rfl, fun olds news ho hn => ?_⟩
      simp only [Pre] at ho hn ⊢
      have e1 := ho.length
      have e2 := hn.length
      exact ⟨by omega, by omega, RelL.putAt off ho (hn.take n)⟩
    · rename_i w k y
      split at h
      · rename_i x hx
        rw [ob_iff, Bool.and_eq_true] at h
        have h1 := Nat.le_of_ble_eq_true h.1.1
        have h2 := Nat.le_of_ble_eq_true h.1.2
        refine ⟨_, h.2, rfl, rfl, fun olds news ho hn => ?_⟩
        simp only [Pre] at ho hn ⊢
        rw [toInts_rel hx ho, hn]
        exact ⟨by simpa using h1, by simpa using h2, by rw [putAt_map, List.map_take]⟩
      · exact h.elim
    · exact h.elim
  · exact h.elim

theorem map_get {f : Blk → Blk} {j : Nat} {d : Blk} (h : (tbl.map f)[j]? = some d) : ∃ c, tbl[j]? = some c ∧ d = f c := by
  rw [List.getElem?_map] at h
  cases hc : tbl[j]? with
  | none => rw [hc] at h; cases h
  | some c => rw [hc] at h; exact ⟨c, rfl, (Option.some.inj h).symm⟩

/-- Less is said. -/
theorem TOK.purged (h : TOK ρ σ B tbl w) (mv : List Nat) : TOK ρ σ B (tbl.map (Blk.purge mv)) w := by
  refine ⟨h.gl, h.fr, fun j d hj hd => ?_, fun j d hj hd hs => ?_, fun j d hj hd hs => ?_, fun i j c d hi hj hc hd hx hsi hsj he => ?_, ?_⟩
  rotate_left 4
  · refine h.mok.via id (fun i d hi hm => ?_) (fun _ _ _ _ _ _ _ _ h => h)
    obtain ⟨c, hc, rfl⟩ := map_get hi
    exact ⟨c, hc, by simpa using hm, rfl, rfl, fun o ho => by rw [List.length_map]; exact ho.purge (Nat.le_refl _) (fun _ _ _ => ⟨rfl, rfl⟩), by simp, fun h => h, fun _ h => h⟩
  · obtain ⟨c, hc, rfl⟩ := map_get hj
    rw [Blk.purge_dead] at hd
    rw [Blk.purge_len, List.length_map]
    rcases h.lies j c hc hd with h0 | ⟨pre, hp, hl⟩
    · exact .inl h0
    · exact .inr ⟨pre, hp.purge (Nat.le_refl _) (fun _ _ _ => ⟨rfl, rfl⟩), hl⟩
  · obtain ⟨c, hc, rfl⟩ := map_get hj
    rw [Blk.purge_dead] at hd
    exact h.dom j c hc hd hs
  · obtain ⟨c, hc, rfl⟩ := map_get hj
    rw [Blk.purge_wr] at hd
    exact h.domw j c hc hd hs
  · obtain ⟨c, hc1, rfl⟩ := map_get hi
    obtain ⟨d, hd1, rfl⟩ := map_get hj
    rw [Blk.purge_dead] at hc hd
    rw [Blk.purge_wr, Blk.purge_wr] at hx
    exact h.inj i j c d hc1 hd1 hc hd hx hsi hsj he

/-- A block is told in other words, or less of it. -/
theorem TOK.toldK (k : Nat) (h : TOK ρ σ B tbl w) {i : Nat} {b b' : Blk} (hb : tbl[i]? = some b) (hw : b.wr = true) (hp : ∀ pre, Pre tbl.length ρ σ b pre → Pre tbl.length ρ σ b' (pre.take k)) : TOK ρ σ B (tbl.set i b') w := by
  have hd0 := isDead_of_wr hw
  have hb'd : b'.isDead = false := by
    have hp0 : ∃ pre, Pre tbl.length ρ σ b pre := by
      rcases h.lies i b hb hd0 with ⟨h0, h1⟩ | ⟨pre, hp', _⟩
      · cases b with
        | dead => cases hd0
        | cells w l => exact ⟨[], by have : l = [] := List.length_eq_zero_iff.1 h1; subst this; simp [Pre, RelL]⟩
        | ints w k l => exact ⟨_, rfl⟩
        | tab w n cols => exact ⟨_, rfl⟩
        | map w pl ks g => cases hd0
      · exact ⟨pre, hp'⟩
    obtain ⟨pre, hq⟩ := hp0
    have := hp pre hq
    cases b' with
    | dead => exact this.elim
    | map w pl ks g => exact this.elim
    | _ => rfl
  refine ⟨h.gl, h.fr, fun j c hj hd => ?_, fun j c hj hd hs => ?_, fun j c hj hd hs => ?_, fun j j' c d hj hj' hc hd hx hsi hsj he => ?_, ?_⟩
  rotate_left 4
  · refine h.mok.via id (fun j d hj hm => ?_) (fun _ _ _ _ _ _ _ _ h => h)
    rcases getElem?_setS hj with ⟨e, hj⟩ | ⟨rfl, rfl⟩
    · exact ⟨d, hj, hm, rfl, rfl, fun o ho => by rw [List.length_set]; exact ho, fun h => h, fun h => h, fun _ h => h⟩
    · rw [not_isMap hb'd] at hm; cases hm
  · rw [List.length_set]
    rcases getElem?_setS hj with ⟨e, hj⟩ | ⟨rfl, rfl⟩
    · exact h.lies j c hj hd
    · rcases h.lies j b hb hd0 with ⟨h0, h1⟩ | ⟨pre, hp', hl⟩
      · refine .inl ⟨h0, ?_⟩
        have hp0 : ∃ pre, Pre tbl.length ρ σ b pre := by
          cases b with
          | dead => cases hd0
          | cells w l => exact ⟨[], by have : l = [] := List.length_eq_zero_iff.1 h1; subst this; simp [Pre, RelL]⟩
          | ints w k l => exact ⟨_, rfl⟩
          | tab w n cols => exact ⟨_, rfl⟩
          | map w pl ks g => cases hd0
        obtain ⟨pre, hq⟩ := hp0
        have := (hp pre hq).length
        have := hq.length
        have := List.length_take_le' k pre
        omega
      · exact .inr ⟨pre.take k, hp pre hp', hl.weaken k⟩
  · rcases getElem?_setS hj with ⟨e, hj⟩ | ⟨rfl, rfl⟩
    · exact h.dom j c hj hd hs
    · exact h.dom j b hb hd0 hs
  · rcases getElem?_setS hj with ⟨e, hj⟩ | ⟨rfl, rfl⟩
    · exact h.domw j c hj hd hs
    · exact h.domw j b hb hw hs
  · rcases getElem?_setS hj with ⟨e, hj1⟩ | ⟨e1, _⟩ <;> rcases getElem?_setS hj' with ⟨e', hj2⟩ | ⟨e2, _⟩
    · exact h.inj j j' c d hj1 hj2 hc hd hx hsi hsj he
    · subst e2; exact h.inj j j' c b hj1 hb hc hd0 (by rw [hw, Bool.or_true]) hsi hsj he
    · subst e1; exact h.inj j j' b d hb hj2 hd0 hd (by rw [hw, Bool.true_or]) hsi hsj he
    · omega

/-- A block is told in other words. -/
theorem TOK.told (h : TOK ρ σ B tbl w) {i : Nat} {b b' : Blk} (hb : tbl[i]? = some b) (hw : b.wr = true) (hp : ∀ pre, Pre tbl.length ρ σ b pre → Pre tbl.length ρ σ b' pre) : TOK ρ σ B (tbl.set i b') w :=
  h.toldK b.len hb hw fun pre hq => by
    rw [List.take_of_length_le (by rw [hq.length]; exact Nat.le_refl _)]
    exact hp pre hq

/-- A block that has moved to new memory. -/
theorem TOK.realloc (h : TOK ρ σ B tbl w) {i : Nat} {b b' : Blk} (hi : tbl[i]? = some b) (cs : Array Value) (T : TypeId) (k : Nat) (hp : Pre tbl.length ρ σ b' (cs.toList.take k)) :
    TOK (upd ρ i w.heap.size) (upd σ i (cs.size, 0)) B ((tbl.set i b').map (Blk.purge [i])) (w.alloc (.cells cs T)) := by
  have hag : ∀ j, j ≠ i → upd ρ i w.heap.size j = ρ j ∧ upd σ i (cs.size, 0) j = σ j := fun j hj => ⟨upd_ne _ _ hj, upd_ne _ _ hj⟩
  have hag' : ∀ j, j < tbl.length → j ∉ [i] → upd ρ i w.heap.size j = ρ j ∧ upd σ i (cs.size, 0) j = σ j := fun j _ hj => hag j (by simpa using hj)
  have hil : i < tbl.length := (List.getElem?_eq_some_iff.1 hi).1
  have hb'm : b'.isMap = false := by
    cases b' with
    | map w pl ks g => exact hp.elim
    | _ => rfl
  refine ⟨h.gl, h.fr.alloc _, fun j d hj hd => ?_, fun j d hj hd hs => ?_, fun j d hj hd hs => ?_, fun j j' c d hj hj' hc hd hx hsi hsj he => ?_, ?_⟩
  rotate_left 4
  · refine h.mok.via id (fun j d hj hm => ?_) (fun _ _ _ _ _ _ _ _ h => h)
    obtain ⟨c, hc, rfl⟩ := map_get hj
    rw [Blk.purge_isMap] at hm
    rcases getElem?_setS hc with ⟨e, hc⟩ | ⟨rfl, rfl⟩
    · exact ⟨c, hc, hm, (hag j e).1, RowKit.Below.heap_alloc w _ _ (h.mlt hc hm), fun o ho => by rw [List.length_map, List.length_set]; exact ho.purge (Nat.le_refl _) hag', by simp, fun h => h, fun _ h => h⟩
    · rw [hb'm] at hm; cases hm
  · obtain ⟨c, hc, rfl⟩ := map_get hj
    rw [Blk.purge_dead] at hd
    rw [Blk.purge_len, List.length_map, List.length_set]
    rcases getElem?_setS hc with ⟨e, hc⟩ | ⟨rfl, rfl⟩
    · rw [(hag j e).1, (hag j e).2]
      rcases h.lies j c hc hd with h0 | ⟨pre, hp, hl⟩
      · exact .inl h0
      · exact .inr ⟨pre, hp.purge (Nat.le_refl _) hag', hl.of_block (RowKit.Below.heap_alloc w _ _ hl.lt)⟩
    · refine .inr ⟨_, hp.purge (Nat.le_refl _) hag', ?_⟩
      rw [upd_same, upd_same]
      exact (Lies.of_fresh w cs T).weaken k
  · obtain ⟨c, hc, rfl⟩ := map_get hj
    rw [Blk.purge_dead] at hd
    rcases getElem?_setS hc with ⟨e, hc⟩ | ⟨rfl, rfl⟩
    · rw [(hag j e).2] at hs; rw [(hag j e).1]; exact h.dom j c hc hd hs
    · right; rw [upd_same]; exact h.fr.size
  · obtain ⟨c, hc, rfl⟩ := map_get hj
    rw [Blk.purge_wr] at hd
    rcases getElem?_setS hc with ⟨e, hc⟩ | ⟨rfl, rfl⟩
    · rw [(hag j e).2] at hs; rw [(hag j e).1]; exact h.domw j c hc hd hs
    · right; rw [upd_same]; exact h.fr.size
  · obtain ⟨c, hc1, rfl⟩ := map_get hj
    obtain ⟨d, hd1, rfl⟩ := map_get hj'
    rw [Blk.purge_dead] at hc hd
    rcases getElem?_setS hc1 with ⟨e1, hc2⟩ | ⟨e1, _⟩ <;> rcases getElem?_setS hd1 with ⟨e2, hd2⟩ | ⟨e2, _⟩
    · rw [(hag j e1).1, (hag j' e2).1] at he
      rw [(hag j e1).2] at hsi
      rw [(hag j' e2).2] at hsj
      exact h.inj j j' c d hc2 hd2 hc hd (by simpa [Blk.purge_wr] using hx) hsi hsj he
    · subst e2
      rw [(hag j e1).1, upd_same] at he
      rw [(hag j e1).2] at hsi
      have := h.lt hc2 hc hsi
      omega
    · subst e1
      rw [(hag j' e2).1, upd_same] at he
      rw [(hag j' e2).2] at hsj
      have := h.lt hd2 hd hsj
      omega
    · omega

/-- The state behind such an operation. -/
def BM (B : Base) (st : St) (K : SV → St → Prop) (ρ : Nat → Nat) (σ : Nat → Nat × Nat) (v : Value) (w' : World) : Prop :=
  ∃ s st' ρ' σ' js, K s st' ∧ Rel st'.tbl.length ρ' σ' s v ∧ TOK ρ' σ' B st'.tbl w' ∧ st'.nt = st.nt ∧ st'.n0 = st.n0 ∧ st.tbl.length ≤ st'.tbl.length ∧ (st'.env = purgeEnv js st.env ∨ (js = [] ∧ st'.env = st.env)) ∧
    (∀ i, i < st.tbl.length → i ∉ js → ρ' i = ρ i ∧ σ' i = σ i) ∧ ∀ i, i < st.n0 → i ∉ st'.mv → i ∉ st.mv ∧ i ∉ js

theorem mvOf_spec {n0 j i : Nat} {mv : List Nat} (hi : i < n0) (h : i ∉ mvOf n0 j mv) : i ∉ mv ∧ i ∉ [j] := by
  unfold mvOf at h
  split at h
  · rename_i hb
    have := Nat.le_of_ble_eq_true hb
    exact ⟨h, by simp; omega⟩
  · simp at h; exact ⟨h.2, by simpa using h.1⟩

theorem zeroCells_rep (z : Array Value) (x : Value) (n : Nat) (h : z.toList = [x]) : (Builtin.zeroCells z n).toList = List.replicate n x := by
  have e : z = #[x] := by apply Array.ext'; simpa using h
  subst e
  apply List.ext_getElem
  · simp [Builtin.zeroCells]
  · intro i h1 h2
    simp [Builtin.zeroCells, Nat.mod_one]

section app
variable {e : TypeId} {i : TypeInfo} {z : Value} {t t' ty : TypeId} {vx : Value} {m : Nat} {news : List Value}
theorem noInt_run (h : noIntT P t' = true) : (∃ d, P.underlying t' = some (.slice d)) ∨ P.underlying t' = some .string := by
  unfold noIntT at h
  split at h
  · rename_i d hd; exact .inl ⟨_, hd⟩
  · rename_i hd; exact .inr hd
  · cases h

theorem run_app_room (ht : P.underlying t = some (.slice e)) (hi : P.info? e = some i) (hn : noIntT P t' = true) (hl : ∀ w', (Builtin.lenOf vx).run P w' = .ok m w')
    (hf : (Builtin.firstCells i.size m vx).run P w = .ok news.toArray w) (a : Addr) (n c : Nat) (hc : n + m ≤ c) (w' : World) (hs : (storeCells (a.add (n * i.size)) news).run P w = .ok () w') :
    (Builtin.append_ #[t, t'] ty #[.slice (some a) n c, vx]).run P w = .ok (.slice (some a) (n + m) c) w' := by
  obtain ⟨d, hd⟩ | hd := noInt_run hn <;> simp [Builtin.append_, run_underlying ht, run_underlying hd, sizeOf, typeInfo, hi, hl, hc, hf, hs]

theorem run_app_none (ht : P.underlying t = some (.slice e)) (hi : P.info? e = some i) (hn : noIntT P t' = true) (hl : ∀ w', (Builtin.lenOf vx).run P w' = .ok 0 w')
    (hf : (Builtin.firstCells i.size 0 vx).run P w = .ok #[] w) :
    (Builtin.append_ #[t, t'] ty #[.slice none 0 0, vx]).run P w = .ok (.slice none 0 0) w := by
  obtain ⟨d, hd⟩ | hd := noInt_run hn <;> simp [Builtin.append_, run_underlying ht, run_underlying hd, sizeOf, typeInfo, hi, hl, hf]

theorem run_app_grow (ht : P.underlying t = some (.slice e)) (hi : P.info? e = some i) (hz : i.zero = some z) (hn : noIntT P t' = true) (hl : ∀ w', (Builtin.lenOf vx).run P w' = .ok m w')
    (hf : ∀ w', w'.heap = w.heap → (Builtin.firstCells i.size m vx).run P w' = .ok news.toArray w') (b : Option Addr) (n c : Nat) (olds : List Value)
    (ho : ∀ w', w'.heap = w.heap → (Builtin.firstCells i.size n (.slice b n c)).run P w' = .ok olds.toArray w') (hc : c < n + m) (hb : (n + m) * i.bytes ≤ 140737488355328) (h1 : n + m ≤ 9223372036854775807) :
    (Builtin.append_ #[t, t'] ty #[.slice b n c, vx]).run P w = .ok (.slice (some ⟨w.heap.size, 0, none⟩) (n + m) (grownCap w (n + m) c e))
        (w.drew.alloc (.cells ((olds ++ news).toArray ++ Builtin.zeroCells z.cells (grownCap w (n + m) c e - (n + m))) e)) := by
  have hnn : ¬ (n + m ≤ c) := by omega
  have hfit := growslice_fits (bytes := i.bytes) hc hb
  have h63' : ¬ (9223372036854775807 < ((n : Int) + (m : Int))) := by omega
  have h48' : ¬ (281474976710656 < Builtin.nextslicecap (n + m) c * i.bytes) := by omega
  have hf' := hf w.drew rfl
  have ho' := ho w.drew rfl
  obtain ⟨d, hd⟩ | hd := noInt_run hn <;> simp [Builtin.append_, run_underlying ht, run_underlying hd, sizeOf, typeInfo, zeroValue, hi, hz, hl, hnn, h63', h48', Question.forced, hf', ho', newRow, grownCap] <;> (congr 2; apply Array.ext'; simp [List.append_assoc])
theorem zc_arr {z : Value} {k : IntKind} (hz' : z.cells.toList = [.int k 0]) (m : Nat) : Builtin.zeroCells z.cells m = (List.replicate m (Value.int k 0)).toArray := by
  apply Array.ext'
  rw [zeroCells_rep _ _ _ hz']
theorem zb_le {j : Int} {y : Nat} (hj : 0 ≤ j) (hjb : j.toNat * y ≤ 140737488355328) (hb1 : 1 ≤ y) : IntKind.i64.wrap j = j ∧ ¬ j < 0 ∧ ¬ (281474976710656 < j * (y : Int)) := by
  obtain ⟨q, rfl⟩ := Int.eq_ofNat_of_zero_le hj
  have h1 : q ≤ q * y := Nat.le_mul_of_pos_right q hb1
  have h2 : ((q : Int) * (y : Int)) = ((q * y : Nat) : Int) := by simp
  simp only [Int.ofNat_eq_natCast, Int.toNat_natCast] at *
  refine ⟨?_, by omega, by rw [h2]; omega⟩
  rw [IntKind.wrap_i64]; omega
theorem run_appZ_room {k : IntKind} {q : Nat} (ht : P.underlying t = some (.slice e)) (hi : P.info? e = some i) (hz : i.zero = some z) (hz' : z.cells.toList = [.int k 0]) (h1 : i.size = 1) (ht' : P.underlying t' = some (.int .i64)) (hjb : q * i.bytes ≤ 140737488355328) (hb1 : 1 ≤ i.bytes)
    (a : Addr) (n c : Nat) (hc : n + q ≤ c) (w' : World) (hs : (storeCells (a.add (n * i.size)) (List.replicate q (.int k 0))).run P w = .ok () w') :
    (Builtin.append_ #[t, t'] ty #[.slice (some a) n c, .int .i64 (q : Int)]).run P w = .ok (.slice (some a) (n + q) c) w' := by
  obtain ⟨e1, e2, e3⟩ := zb_le (j := (q : Int)) (y := i.bytes) (by omega) (by simpa using hjb) hb1
  rw [h1, Nat.mul_one] at hs
  by_cases h0 : q = 0
  · subst h0
    simp only [List.replicate] at hs
    simp only [Nat.add_zero] at hc
    simp [Builtin.append_, run_underlying ht, run_underlying ht', sizeOf, typeInfo, zeroValue, hi, hz, asInt, asIntOf, h1, hs, hc, zc_arr hz', show IntKind.i64.wrap 0 = 0 from rfl]
  · have h0' : ¬ ((q : Int) ≤ 0) := by omega
    simp [Builtin.append_, run_underlying ht, run_underlying ht', sizeOf, typeInfo, zeroValue, hi, hz, asInt, asIntOf, e1, e2, e3, h1, h0, h0', hc, hs, zc_arr hz']
theorem run_appZ_none {k : IntKind} (ht : P.underlying t = some (.slice e)) (hi : P.info? e = some i) (hz : i.zero = some z) (hz' : z.cells.toList = [.int k 0]) (h1 : i.size = 1) (ht' : P.underlying t' = some (.int .i64)) :
    (Builtin.append_ #[t, t'] ty #[.slice none 0 0, .int .i64 0]).run P w = .ok (.slice none 0 0) w := by
  simp [Builtin.append_, run_underlying ht, run_underlying ht', sizeOf, typeInfo, zeroValue, hi, hz, asInt, asIntOf, h1, zc_arr hz', show IntKind.i64.wrap 0 = 0 from rfl]
theorem run_appZ_grow {k : IntKind} {q : Nat} (ht : P.underlying t = some (.slice e)) (hi : P.info? e = some i) (hz : i.zero = some z) (hz' : z.cells.toList = [.int k 0]) (h1 : i.size = 1) (ht' : P.underlying t' = some (.int .i64)) (hjb : q * i.bytes ≤ 140737488355328) (hb1 : 1 ≤ i.bytes)
    (b : Option Addr) (n c : Nat) (olds : List Value) (ho : ∀ w', w'.heap = w.heap → (Builtin.firstCells i.size n (.slice b n c)).run P w' = .ok olds.toArray w') (hc : c < n + q) (hb : (n + q) * i.bytes ≤ 140737488355328) (hn : n + q ≤ 9223372036854775807) :
    (Builtin.append_ #[t, t'] ty #[.slice b n c, .int .i64 (q : Int)]).run P w = .ok (.slice (some ⟨w.heap.size, 0, none⟩) (n + q) (grownCap w (n + q) c e))
        (w.drew.alloc (.cells ((olds ++ List.replicate q (Value.int k 0)).toArray ++ Builtin.zeroCells z.cells (grownCap w (n + q) c e - (n + q))) e)) := by
  obtain ⟨e1, e2, e3⟩ := zb_le (j := (q : Int)) (y := i.bytes) (by omega) (by simpa using hjb) hb1
  have hnn : ¬ (n + q ≤ c) := by omega
  have hfit := growslice_fits (bytes := i.bytes) hc hb
  have h63' : ¬ (9223372036854775807 < ((n : Int) + (q : Int))) := by omega
  have h48' : ¬ (281474976710656 < Builtin.nextslicecap (n + q) c * i.bytes) := by omega
  have ho' := ho w.drew rfl
  rw [h1] at ho'
  by_cases h0 : q = 0
  · subst h0
    simp only [Nat.add_zero] at hc hnn h48'
    have h63' : ¬ (9223372036854775807 < (n : Int)) := by omega
    simp [Builtin.append_, run_underlying ht, run_underlying ht', sizeOf, typeInfo, zeroValue, hi, hz, asInt, asIntOf, h1, zc_arr hz', hnn, h63', h48', Question.forced, ho', newRow, grownCap, show IntKind.i64.wrap 0 = 0 from rfl]
  · have h0' : ¬ ((q : Int) ≤ 0) := by omega
    simp [Builtin.append_, run_underlying ht, run_underlying ht', sizeOf, typeInfo, zeroValue, hi, hz, asInt, asIntOf, e1, e2, e3, h1, h0, h0', zc_arr hz', hnn, h63', h48', Question.forced, ho', newRow, grownCap]
    congr 2
    apply Array.ext'
    simp [← List.replicate_append_replicate, List.append_assoc]
end app

/-- What appending these cells comes to. -/
structure AppRun (P : Program) (w : World) (t t' ty : TypeId) (vx : Value) (e : TypeId) (i : TypeInfo) (z : Value) (m : Nat) (news : List Value) : Prop where
  room : ∀ (a : Addr) (n c : Nat), n + m ≤ c → ∀ (w' : World), (storeCells (a.add (n * i.size)) news).run P w = .ok () w' → (Builtin.append_ #[t, t'] ty #[.slice (some a) n c, vx]).run P w = .ok (.slice (some a) (n + m) c) w'
  none : m = 0 → (Builtin.append_ #[t, t'] ty #[.slice none 0 0, vx]).run P w = .ok (.slice none 0 0) w
  grow : ∀ (b : Option Addr) (n c : Nat) (olds : List Value), (∀ w', w'.heap = w.heap → (Builtin.firstCells i.size n (.slice b n c)).run P w' = .ok olds.toArray w') → c < n + m → (n + m) * i.bytes ≤ 140737488355328 → n + m ≤ 9223372036854775807 →
    (Builtin.append_ #[t, t'] ty #[.slice b n c, vx]).run P w = .ok (.slice (some ⟨w.heap.size, 0, Option.none⟩) (n + m) (grownCap w (n + m) c e))
        (w.drew.alloc (.cells ((olds ++ news).toArray ++ Builtin.zeroCells z.cells (grownCap w (n + m) c e - (n + m))) e))

theorem zero_cells {e : TypeId} {i : TypeInfo} {z : List Value} (hi : P.info? e = some i) (hz : zeroT P e = some z) : ∃ v, i.zero = some v ∧ v.cells.toList = z := by
  unfold zeroT at hz
  rw [hi] at hz
  simp only at hz
  split at hz
  · rename_i v hv; simp at hz; exact ⟨v, hv, hz⟩
  · cases hz

theorem nilB_pre (e : TypeId) : Pre tbl.length ρ σ (nilB P e) [] := by
  unfold nilB; split <;> simp [Pre, RelL]

theorem grown_pre {olds news : List Value} {z : Value} {n m k : Nat} : ((olds ++ news).toArray ++ Builtin.zeroCells z.cells (k - (n + m))).toList.take (olds ++ news).length = olds ++ news := by
  rw [Array.toList_append]
  exact List.take_left

theorem appC_sound {st : St} {s : SV} {t t' ty e : TypeId} {i : TypeInfo} {z : Value} {sz m : Nat} {nb : Blk} {news : List Value} {K : SV → St → Prop} {vs vx : Value} (hT : TOK ρ σ B st.tbl w) (hs : Rel st.tbl.length ρ σ s vs)
    (hzsz : z.cells.size = i.size) (hsz : i.size = sz + 1) (hby : 1 ≤ i.bytes) (hnp : Pre st.tbl.length ρ σ nb news) (hn1 : ∀ v ∈ news, v.oneCell' = true) (hnl : news.length = m * i.size) (hA : AppRun P w t t' ty vx e i z m news) (h : appC P st s e sz i.bytes K m nb) :
    ∃ v w', (Builtin.append_ #[t, t'] ty #[vs, vx]).run P w = .ok v w' ∧ BM B st K ρ σ v w' := by
  unfold appC at h
  rw [← hsz] at h
  have hmb : ∀ k, k ≤ k * i.bytes := fun k => Nat.le_mul_of_pos_right k hby
  have hpos : 0 < i.size := by omega
  have hmle : m ≤ m * i.size := Nat.le_mul_of_pos_right m hpos
  split at h
  · -- nil
    simp only [Rel] at hs
    subst hs
    obtain ⟨b', h, hbw, hbd, hbl, hj⟩ := joinB_sound (ρ := ρ) (σ := σ) (N := st.tbl.length) h
    rw [ob_iff] at h
    have hb := of_decide_eq_true h.1
    have hp := hj [] news (nilB_pre e) hnp
    rw [List.nil_append] at hp
    by_cases hm : m = 0
    · subst hm
      have hnn : news = [] := List.length_eq_zero_iff.1 (by omega)
      subst hnn
      refine ⟨.slice none 0 0, w, hA.none rfl, _, _, ρ, upd σ st.tbl.length (0, 0), [], h.2, ?_, ?_, rfl, rfl, by simp, .inr ⟨rfl, rfl⟩, fun i hi _ => ⟨rfl, upd_ne _ _ (by omega)⟩, fun i hi hm => ⟨hm, by simp⟩⟩
      · simp [Rel]
      · have hag : ∀ i, i < st.tbl.length → ρ i = ρ i ∧ upd σ st.tbl.length (0, 0) i = σ i := fun i hi => ⟨rfl, upd_ne _ _ (by omega)⟩
        have hl0 : b'.len = 0 := by have := hp.length; simpa using this.symm
        have hb'm : b'.isMap = false := not_isMap hbd
        refine ⟨hT.gl, hT.fr, fun i c hi hd => ?_, fun i c hi hd hs => ?_, fun i c hi hd hs => ?_, fun i j c d hi hj hc hd hx hsi hsj he => ?_, ?_⟩
        rotate_left 4
        · refine hT.mok.via id (fun i c hi hm => ?_) (fun _ _ _ _ _ _ _ _ h => h)
          rcases getElem?_snoc hi with ⟨hl, hi⟩ | ⟨rfl, rfl⟩
          · exact ⟨c, hi, hm, rfl, rfl, fun o ho => ho.mono (by simp) (fun i hi _ => hag i hi), fun h => h, fun h => h, fun _ h => h⟩
          · rw [hb'm] at hm; cases hm
        · rcases getElem?_snoc hi with ⟨hl, hi⟩ | ⟨rfl, rfl⟩
          · rw [(hag i hl).2]
            rcases hT.lies i c hi hd with h0 | ⟨pre, hp', hl'⟩
            · exact .inl h0
            · exact .inr ⟨pre, hp'.mono (by simp) (fun i hi _ => hag i hi), hl'⟩
          · exact .inl ⟨by rw [upd_same], hl0⟩
        · rcases getElem?_snoc hi with ⟨hl, hi⟩ | ⟨rfl, rfl⟩
          · rw [(hag i hl).2] at hs; exact hT.dom i c hi hd hs
          · rw [upd_same] at hs; exact absurd rfl hs
        · rcases getElem?_snoc hi with ⟨hl, hi⟩ | ⟨rfl, rfl⟩
          · rw [(hag i hl).2] at hs; exact hT.domw i c hi hd hs
          · rw [upd_same] at hs; exact absurd rfl hs
        · rcases getElem?_snoc hi with ⟨hl, hi1⟩ | ⟨e1, e2⟩ <;> rcases getElem?_snoc hj with ⟨hl', hj1⟩ | ⟨e3, e4⟩
          · rw [(hag i hl).2] at hsi
            rw [(hag j hl').2] at hsj
            exact hT.inj i j c d hi1 hj1 hc hd hx hsi hsj he
          · subst e3; rw [upd_same] at hsj; exact absurd rfl hsj
          · subst e1; rw [upd_same] at hsi; exact absurd rfl hsi
          · omega
    · have hbytes : (0 + m) * i.bytes ≤ 140737488355328 := by rw [Nat.zero_add]; exact hb
      have h63 : 0 + m ≤ 9223372036854775807 := by have := hmb (0 + m); omega
      have hr := hA.grow none 0 0 [] (fun w' _ => by simp [Builtin.firstCells]) (by omega) hbytes h63
      simp only [Nat.zero_add] at hr
      have hge := grownCap_ge w m 0 e
      refine ⟨_, _, hr, _, _, upd ρ st.tbl.length w.drew.heap.size, upd σ st.tbl.length _, [], h.2, ?_, hT.drew (w.drawn + 1) |>.alloc _ e (([] ++ news).length) ?_, rfl, rfl, by simp, .inr ⟨rfl, rfl⟩, fun i hi _ => ⟨upd_ne _ _ (by omega), upd_ne _ _ (by omega)⟩, fun i hi hm => ⟨hm, by simp⟩⟩
      · simp only [Rel]
        refine ⟨by simp, by omega, .inr ⟨0, grownCap w m 0 e, by simp, hge, .inl rfl, ?_⟩⟩
        rw [upd_same, Array.size_append, size_zeroCells, hzsz]
        simp only [List.nil_append, List.size_toArray, hnl, ← Nat.add_mul]
        rw [Nat.add_sub_cancel' hge, Nat.zero_add]; exact Nat.le_refl _
      · have := grown_pre (olds := []) (news := news) (z := z) (n := 0) (m := m) (k := grownCap w m 0 e)
        rw [Nat.zero_add] at this
        rw [this]; exact hp
  · rename_i j off len cp s'
    split at h
    · rename_i b h0 hs' hb
      have h0 := Nat.eq_of_beq_eq_true h0
      subst h0
      have hs' := Nat.eq_of_beq_eq_true hs'
      subst hs'
      obtain ⟨b', h, hbw, hbd, hbl, hj⟩ := joinB_sound (ρ := ρ) (σ := σ) (N := st.tbl.length) h
      rw [ob_iff] at h
      have hby48 := of_decide_eq_true h.1
      have h63 : len + m ≤ 9223372036854775807 := by have := hmb (len + m); omega
      simp only [Rel] at hs
      obtain ⟨hjl, hlc, hs⟩ := hs
      have hb' := hb
      rw [nth_eq] at hb'
      have hbd0 := isDead_of_wr hbw
      have hag' : ∀ g sz i, i < st.tbl.length → i ∉ [j] → upd ρ j g i = ρ i ∧ upd σ j sz i = σ i := fun g sz i _ hi => ⟨upd_ne _ _ (by simpa using hi), upd_ne _ _ (by simpa using hi)⟩
      -- to new memory
      have grow : ∀ (a : Option Addr) (c : Nat) (olds : List Value), vs = .slice a len c → Pre st.tbl.length ρ σ b olds → (∀ w', w'.heap = w.heap → (Builtin.firstCells i.size len (.slice a len c)).run P w' = .ok olds.toArray w') → c < len + m →
          ∃ v w', (Builtin.append_ #[t, t'] ty #[vs, vx]).run P w = .ok v w' ∧ BM B st K ρ σ v w' := by
        rintro a c olds rfl hop hof hc
        have hr := hA.grow a len c olds hof hc hby48 h63
        have hge := grownCap_ge w (len + m) c e
        refine ⟨_, _, hr, _, _, upd ρ j w.drew.heap.size, upd σ j _, [j], h.2, ?_, (hT.drew (w.drawn + 1)).realloc hb' _ e ((olds ++ news).length) ?_, rfl, rfl, by simp, .inl rfl, hag' _ _, fun i hi hm => mvOf_spec hi hm⟩
        · simp only [Rel]
          refine ⟨by simpa using hjl, by omega, .inr ⟨0, grownCap w (len + m) c e, by simp, hge, .inl rfl, ?_⟩⟩
          have hol := hop.length
          rw [upd_same, Array.size_append, size_zeroCells, hzsz]
          simp only [List.size_toArray, List.length_append, hnl, hol, hbl, ← Nat.add_mul]
          rw [Nat.add_sub_cancel' hge, Nat.zero_add]; exact Nat.le_refl _
        · rw [grown_pre]; exact hj _ _ hop hnp
      by_cases hm : m = 0
      · -- nothing more
        subst hm
        have hnn : news = [] := List.length_eq_zero_iff.1 (by omega)
        subst hnn
        have hT' : TOK ρ σ B (st.tbl.set j b') w := by
          have hbl' : ∀ pre, Pre st.tbl.length ρ σ b pre → Pre st.tbl.length ρ σ b' pre := fun pre hp => by have := hj pre [] hp hnp; rwa [List.append_nil] at this
          exact hT.told hb' hbw hbl'
        rcases hs with ⟨rfl, rfl, _⟩ | ⟨o, c, rfl, hc, ho, hos⟩
        · refine ⟨_, w, hA.none rfl, _, _, ρ, σ, [j], h.2, ?_, hT'.purged [j], rfl, rfl, by simp, .inl rfl, fun _ _ _ => ⟨rfl, rfl⟩, fun i hi hm => mvOf_spec hi hm⟩
          simp [Rel, hjl]
        · refine ⟨_, w, hA.room ⟨ρ j, (σ j).2 + o, none⟩ len c (by omega) w rfl, _, _, ρ, σ, [j], h.2, ?_, hT'.purged [j], rfl, rfl, by simp, .inl rfl, fun _ _ _ => ⟨rfl, rfl⟩, fun i hi hm => mvOf_spec hi hm⟩
          simp only [Rel]; exact ⟨by simpa using hjl, by omega, .inr ⟨o, c, rfl, by omega, ho, hos⟩⟩
      · rcases hs with ⟨rfl, rfl, _⟩ | ⟨o, c, rfl, hc, ho, hos⟩
        · have hb0 : Pre st.tbl.length ρ σ b [] := by
            have h1 : b.len = 0 := by omega
            cases b with
            | dead => cases hbd0
            | cells w l => have : l = [] := List.length_eq_zero_iff.1 h1
                           subst this; simp [Pre, RelL]
            | ints w k l => have : l = [] := List.length_eq_zero_iff.1 h1
                            subst this; simp [Pre]
            | tab w q cols => have h2 : rowsL cols q = [] := List.length_eq_zero_iff.1 (by rw [rowsL_len]; exact h1)
                              simp [Pre, h2]
            | map w pl ks g => cases hbd0
          exact grow none 0 [] rfl hb0 (fun w' _ => by simp [Builtin.firstCells]) (by omega)
        · by_cases hcc : len + m ≤ c
          · have hc0 : c ≠ 0 := by omega
            have ho : o = 0 := ho.resolve_right hc0
            subst ho
            have hcs : (len + m) * i.size ≤ c * i.size := Nat.mul_le_mul_right i.size hcc
            have hcs0 : 1 * 1 ≤ c * i.size := Nat.mul_le_mul (by omega) hpos
            rw [Nat.add_mul] at hcs
            rcases hT.lies j b hb' hbd0 with ⟨h0, _⟩ | ⟨pre, hp, hl⟩
            · omega
            · have hpl := hp.length
              obtain ⟨w', hr, hl', hbut⟩ := run_storeCells_lies (P := P) (len * i.size) news 0 pre w hl (by omega) (by omega) hn1
              have e1 : putAt pre (len * i.size + 0) news = pre ++ news := by
                unfold putAt
                rw [List.take_of_length_le (by omega), List.drop_of_length_le (by omega), List.append_nil]
              rw [e1] at hl'
              have hT' := hT.but hb' hbw (by omega) hbut hbd ⟨_, hj _ _ hp hnp, hl'⟩
              refine ⟨_, w', hA.room ⟨ρ j, (σ j).2 + 0, none⟩ len c hcc w' (by rw [addr_add, Nat.add_zero]; exact hr), _, _, ρ, σ, [j], h.2, ?_, hT'.purged [j], rfl, rfl, by simp, .inl rfl, fun _ _ _ => ⟨rfl, rfl⟩, fun i hi hm => mvOf_spec hi hm⟩
              simp only [Rel]; exact ⟨by simpa using hjl, by omega, .inr ⟨0, c, rfl, by omega, .inl rfl, hos⟩⟩
          · by_cases hl0 : len = 0
            · subst hl0
              have hb0 : Pre st.tbl.length ρ σ b [] := by
                have h1 : b.len = 0 := by omega
                cases b with
                | dead => cases hbd0
                | cells w l => have : l = [] := List.length_eq_zero_iff.1 h1
                               subst this; simp [Pre, RelL]
                | ints w k l => have : l = [] := List.length_eq_zero_iff.1 h1
                                subst this; simp [Pre]
                | tab w q cols => have h2 : rowsL cols q = [] := List.length_eq_zero_iff.1 (by rw [rowsL_len]; exact h1)
                                  simp [Pre, h2]
                | map w pl ks g => cases hbd0
              exact grow _ c [] rfl hb0 (fun w' _ => by simp [Builtin.firstCells, loadCells, loadCellsFrom]) (by omega)
            · have ho : o = 0 := ho.resolve_right (by omega)
              subst ho
              have hcs : len * i.size ≤ c * i.size := Nat.mul_le_mul_right i.size (by omega)
              have hcs0 : 1 * 1 ≤ c * i.size := Nat.mul_le_mul (by omega) hpos
              rcases hT.lies j b hb' hbd0 with ⟨h0, _⟩ | ⟨pre, hp, hl⟩
              · omega
              · have hpl := hp.length
                refine grow _ c pre rfl hp (fun w' hw' => ?_) (by omega)
                have := run_loadCells_lies (P := P) (w := w') (hl.of_block (by rw [hw'])) 0 (len * i.size) (by omega)
                rw [List.drop_zero, List.take_of_length_le (by omega)] at this
                simpa [Builtin.firstCells] using this
    · exact h.elim
  · exact h.elim

theorem appM_sound {st : St} {s x : SV} {t t' ty : TypeId} {K : SV → St → Prop} {vs vx : Value} (hT : TOK ρ σ B st.tbl w) (hs : Rel st.tbl.length ρ σ s vs) (hx : Rel st.tbl.length ρ σ x vx) (h : appM P st s x t t' K) :
    ∃ v w', (Builtin.append_ #[t, t'] ty #[vs, vx]).run P w = .ok v w' ∧ BM B st K ρ σ v w' := by
  unfold appM at h
  split at h
  · rename_i e ht hn
    split at h
    · rename_i i z hi hz0
      obtain ⟨z, hz, rfl⟩ := zero_cells hi hz0
      split at h
      · rename_i sz hzl hsz
        rw [Bool.and_eq_true] at hzl
        have hby := Nat.le_of_ble_eq_true hzl.2
        have hzl := Nat.eq_of_beq_eq_true hzl.1
        have hsz : i.size = sz + 1 := hsz
        rw [← hsz] at h
        obtain ⟨m, nb, news, h, hnp, hn1, hnl, hlen, hfirst⟩ := newsB_sound (P := P) hT hx h
        have hfirst' : ∀ w', w'.heap = w.heap → (Builtin.firstCells i.size m vx).run P w' = .ok news.toArray w' := fun w' hw' => by
          rw [hfirst m w' (Nat.le_refl _) hw', List.take_of_length_le (by omega)]
        have hzsz : z.cells.size = i.size := by simpa using hzl
        refine appC_sound (P := P) hT hs hzsz hsz hby hnp hn1 hnl ⟨fun a n c hc w' hs => run_app_room (P := P) ht hi hn hlen (hfirst' w rfl) a n c hc w' hs, fun hm => ?_, fun b n c olds ho hc hb h1 => run_app_grow (P := P) (w := w) (ty := ty) ht hi hz hn hlen hfirst' b n c olds ho hc hb h1⟩ h
        subst hm
        have hnn : news = [] := List.length_eq_zero_iff.1 (by omega)
        subst hnn
        exact run_app_none (P := P) ht hi hn hlen (hfirst' w rfl)
      · exact h.elim
    · exact h.elim
  · rename_i e ht hn
    split at h
    · rename_i i k m hi hz0 hk
      split at h
      case h_2 => exact h.elim
      rename_i hb
      rw [Bool.and_eq_true] at hb
      have h1 := Nat.eq_of_beq_eq_true hb.1
      have hby := Nat.le_of_ble_eq_true hb.2
      rw [ob_iff, Bool.and_eq_true, decide_eq_true_eq, decide_eq_true_eq] at h
      obtain ⟨⟨hm, hjb⟩, h⟩ := h
      obtain ⟨q, rfl⟩ := Int.eq_ofNat_of_zero_le hm
      simp only [Int.ofNat_eq_natCast, Int.toNat_natCast] at hjb h
      obtain ⟨z, hz, hz'⟩ := zero_cells hi hz0
      have ht' : P.underlying t' = some (.int .i64) := by
        unfold kindT at hk
        split at hk
        · rename_i k' hk'; cases hk; exact hk'
        · cases hk
      simp only [Rel] at hx
      subst hx
      have hzsz : z.cells.size = i.size := by rw [h1, ← Array.length_toList, hz']; rfl
      refine appC_sound (P := P) hT hs hzsz (by rw [h1]) hby (news := List.replicate q (Value.int k 0)) (by simp [Pre]) (fun v hv => by rw [List.eq_of_mem_replicate hv]; rfl) (by rw [List.length_replicate, h1, Nat.mul_one]) ⟨fun a n c hc w' hs => run_appZ_room (P := P) ht hi hz hz' h1 ht' hjb hby a n c hc w' hs, fun hm => ?_, fun b n c olds ho hc hb hn => run_appZ_grow (P := P) ht hi hz hz' h1 ht' hjb hby b n c olds ho hc hb hn⟩ h
      subst hm
      exact run_appZ_none (P := P) ht hi hz hz' h1 ht'
    · exact h.elim
  · exact h.elim

/-- Cells stored over a block's. -/
theorem over_lies {i off o n m len c sz : Nat} {b b' : Blk} {news : List Value} (hT : TOK ρ σ B tbl w) (hi : nth tbl i = some b) (hw : b.wr = true) (hd : b'.isDead = false) (h1 : ∀ v ∈ news, v.oneCell' = true) (hn : Nat.min m len * sz = n) (hlc : len ≤ c) (ho : o = off ∨ c = 0)
    (hpre : ∀ pre, Pre tbl.length ρ σ b pre → n ≤ news.length ∧ off + n ≤ pre.length ∧ Pre tbl.length ρ σ b' (putAt pre off (news.take n))) :
    ∃ w', (storeCells ⟨ρ i, (σ i).2 + o, none⟩ (news.take n)).run P w = .ok () w' ∧ TOK ρ σ B (tbl.set i b') w' := by
  by_cases hn0 : n = 0
  · refine ⟨w, by rw [hn0]; rfl, hT.told (by rwa [nth_eq] at hi) hw fun pre hp => ?_⟩
    have := (hpre pre hp).2.2
    rw [hn0, List.take_zero, putAt_nil] at this
    exact this
  · have hc : c ≠ 0 := by
      rintro rfl
      have : len = 0 := by omega
      subst this
      rw [show Nat.min m 0 = 0 from Nat.min_zero m, Nat.zero_mul] at hn
      exact hn0 hn.symm
    have ho := ho.resolve_right hc
    subst ho
    exact store_lies (P := P) hT hi hw (fun v hv => h1 v (List.mem_of_mem_take hv)) hd fun pre hp => by
      obtain ⟨h2, h3, h4⟩ := hpre pre hp
      exact ⟨by simp; omega, h4⟩

theorem over_told {i off n : Nat} {b b' : Blk} {news : List Value} (hT : TOK ρ σ B tbl w) (hi : nth tbl i = some b) (hw : b.wr = true) (hn : n = 0)
    (hpre : ∀ pre, Pre tbl.length ρ σ b pre → n ≤ news.length ∧ off + n ≤ pre.length ∧ Pre tbl.length ρ σ b' (putAt pre off (news.take n))) : TOK ρ σ B (tbl.set i b') w :=
  hT.told (by rwa [nth_eq] at hi) hw fun pre hp => by
    have := (hpre pre hp).2.2
    rw [hn, List.take_zero, putAt_nil] at this
    exact this

theorem copyM_sound {st : St} {s x : SV} {t t' ty : TypeId} {K : SV → St → Prop} {vs vx : Value} (hT : TOK ρ σ B st.tbl w) (hs : Rel st.tbl.length ρ σ s vs) (hx : Rel st.tbl.length ρ σ x vx) (h : copyM P st s x t K) :
    ∃ v w', (Builtin.copy_ #[t, t'] ty #[vs, vx]).run P w = .ok v w' ∧ BM B st K ρ σ v w' := by
  unfold copyM at h
  split at h
  · rename_i e ht
    split at h
    · rename_i sz hsz
      obtain ⟨m, nb, news, h, hnp, hn1, hnl, hlen, hfirst⟩ := newsB_sound (P := P) hT hx h
      split at h
      · rename_i j off len cp s' hst
        clear hst
        split at h
        · rename_i b hs' hb
          have hs' := Nat.eq_of_beq_eq_true hs'
          subst hs'
          obtain ⟨b', h, hbw, hbd, hover⟩ := overB_sound (ρ := ρ) (σ := σ) (N := st.tbl.length) h
          have hpre := fun pre hp => hover pre news hp hnp
          simp only [Rel] at hs
          obtain ⟨hjl, hlc, hs⟩ := hs
          have hf := hfirst (Nat.min m len) w (Nat.min_le_left _ _) rfl
          rcases hs with ⟨rfl, rfl, _⟩ | ⟨o, c, rfl, hc, ho, hos⟩
          · have hm0 : Nat.min m 0 = 0 := Nat.min_zero m
            refine ⟨goInt 0, w, ?_, _, _, ρ, σ, [], h, by simp [Rel, goInt, hm0], over_told hT hb hbw (by rw [hm0, Nat.zero_mul]) hpre, rfl, rfl, by simp, .inr ⟨rfl, rfl⟩, fun _ _ _ => ⟨rfl, rfl⟩, fun i hi hm => ⟨hm, by simp⟩⟩
            rw [hm0] at hf
            simp [Builtin.copy_, run_underlying ht, hlen, run_sizeT w hsz, hf]
          · obtain ⟨w', hr, hT'⟩ := over_lies (P := P) hT hb hbw hbd hn1 rfl (by omega : len ≤ c) ho hpre
            refine ⟨goInt (Nat.min m len : Nat), w', ?_, _, _, ρ, σ, [], h, by simp [Rel, goInt], hT', rfl, rfl, by simp, .inr ⟨rfl, rfl⟩, fun _ _ _ => ⟨rfl, rfl⟩, fun i hi hm => ⟨hm, by simp⟩⟩
            simp only [Builtin.copy_, Sem.run_bind, run_underlying ht, Result.andThen_ok, hlen, run_sizeT w hsz, hf, hr, List.getElem?_toArray, List.getElem?_cons_zero, List.getElem?_cons_succ, Sem.run_pure]
        · exact h.elim
      · exact h.elim
    · exact h.elim
  · exact h.elim

theorem copyX_sound {st : St} {s x : SV} {t t' ty : TypeId} {K : SV → St → Prop} {vs vx : Value} (hT : TOK ρ σ B st.tbl w) (hs : Rel st.tbl.length ρ σ s vs) (hx : Rel st.tbl.length ρ σ x vx) (h : copyX P st s x t K) :
    ∃ v w', (Builtin.copy_ #[t, t'] ty #[vs, vx]).run P w = .ok v w' ∧ BM B st K ρ σ v w' := by
  unfold copyX at h
  split at h
  · rename_i e j off len cp s' i o1 m c1 q ht
    split at h
    · rename_i sz hsz
      simp only [Rel] at hx
      obtain ⟨hil, hmc, hx⟩ := hx
      obtain ⟨vx', hx', hlenx, hsame⟩ : ∃ vx', Rel st.tbl.length ρ σ (.slc i o1 (Nat.min m len) c1 q) vx' ∧ (∀ w', (Builtin.lenOf vx).run P w' = .ok m w' ∧ (Builtin.lenOf vx').run P w' = .ok (Nat.min m len) w') ∧ ∀ n, Builtin.firstCells sz n vx = Builtin.firstCells sz n vx' := by
        have hmin : Nat.min m len ≤ m := Nat.min_le_left _ _
        rcases hx with ⟨rfl, rfl, rfl⟩ | ⟨o, c, rfl, h1, h2, h3⟩
        · have hz : Nat.min 0 len = 0 := Nat.zero_min len
          rw [hz]
          exact ⟨.slice none 0 0, by simp only [Rel]; exact ⟨hil, Nat.le_refl _, .inl ⟨by trivial, by trivial, by trivial⟩⟩, fun w' => ⟨rfl, rfl⟩, fun n => rfl⟩
        · exact ⟨.slice (some ⟨ρ i, (σ i).2 + o, none⟩) (Nat.min m len) c, by simp only [Rel]; exact ⟨hil, by omega, .inr ⟨o, c, by trivial, h1, h2, h3⟩⟩, fun w' => ⟨rfl, rfl⟩, fun n => rfl⟩
      obtain ⟨m', nb, news, h, hnp, hn1, hnl, hlen, hfirst⟩ := newsB_sound (P := P) hT hx' h
      have hm' : m' = Nat.min m len := by
        have h1 := hlen w
        rw [(hlenx w).2] at h1
        cases h1; rfl
      subst hm'
      split at h
      · rename_i b hs' hb
        have hs' := Nat.eq_of_beq_eq_true hs'
        subst hs'
        obtain ⟨b', h, hbw, hbd, hover⟩ := overB_sound (ρ := ρ) (σ := σ) (N := st.tbl.length) h
        have hpre := fun pre hp => hover pre news hp hnp
        simp only [Rel] at hs
        obtain ⟨hjl, hlc, hs⟩ := hs
        have hf := hfirst (Nat.min m len) w (Nat.le_refl _) rfl
        rw [← hsame] at hf
        have hl := (hlenx w).1
        rcases hs with ⟨rfl, rfl, _⟩ | ⟨o, c, rfl, hc, ho, hos⟩
        · have hm0 : Nat.min m 0 = 0 := Nat.min_zero m
          refine ⟨goInt 0, w, ?_, _, _, ρ, σ, [], h, by simp [Rel, goInt, hm0], over_told hT hb hbw (by rw [hm0, Nat.zero_mul]) hpre, rfl, rfl, by simp, .inr ⟨rfl, rfl⟩, fun _ _ _ => ⟨rfl, rfl⟩, fun i hi hm => ⟨hm, by simp⟩⟩
          rw [hm0] at hf
          simp [Builtin.copy_, run_underlying ht, hl, run_sizeT w hsz, hf]
        · obtain ⟨w', hr, hT'⟩ := over_lies (P := P) (m := m) (len := len) (sz := s') hT hb hbw hbd hn1 rfl (by omega : len ≤ c) ho hpre
          refine ⟨goInt (Nat.min m len : Nat), w', ?_, _, _, ρ, σ, [], h, by simp [Rel, goInt], hT', rfl, rfl, by simp, .inr ⟨rfl, rfl⟩, fun _ _ _ => ⟨rfl, rfl⟩, fun i hi hm => ⟨hm, by simp⟩⟩
          simp only [Builtin.copy_, Sem.run_bind, run_underlying ht, Result.andThen_ok, hl, run_sizeT w hsz, hf, hr, List.getElem?_toArray, List.getElem?_cons_zero, List.getElem?_cons_succ, Sem.run_pure]
      · exact h.elim
    · exact h.elim
  · exact h.elim

theorem clearM_sound {st : St} {s : SV} {t ty : TypeId} {K : SV → St → Prop} {vs : Value} (hT : TOK ρ σ B st.tbl w) (hs : Rel st.tbl.length ρ σ s vs) (h : clearM P st s t K) :
    ∃ v w', (Builtin.clear_ #[t] ty #[vs]).run P w = .ok v w' ∧ BM B st K ρ σ v w' := by
  unfold clearM at h
  split at h
  · rename_i e j off len cp s' ht
    split at h
    · rename_i k k' hsz hk hz
      split at h
      · rename_i b hkk hs' hb
        have hs' := Nat.eq_of_beq_eq_true hs'
        subst hs'
        have := of_decide_eq_true hkk; subst this
        obtain ⟨b', h, hbw, hbd, hover⟩ := overB_sound (ρ := ρ) (σ := σ) (N := st.tbl.length) h
        have hpre := fun pre hp => hover pre ((List.replicate len 0).map (Value.int k')) hp rfl
        simp only [Rel] at hs
        obtain ⟨hjl, hlc, hs⟩ := hs
        have fin : ∀ w', TOK ρ σ B (st.tbl.set j b') w' → BM B st K ρ σ (.tuple #[]) w' := fun w' hT' =>
          ⟨_, _, ρ, σ, [], h, by simp [Rel, RelL], hT', rfl, rfl, by simp, .inr ⟨rfl, rfl⟩, fun _ _ _ => ⟨rfl, rfl⟩, fun i hi hm => ⟨hm, by simp⟩⟩
        rcases hs with ⟨rfl, rfl, _⟩ | ⟨o, c, rfl, hc, ho, hos⟩
        · refine ⟨.tuple #[], w, ?_, fin _ (over_told hT hb hbw rfl hpre)⟩
          simp [Builtin.clear_, run_underlying ht]
        · obtain ⟨w', hr, hT'⟩ := over_lies (P := P) (m := len) (len := len) (sz := 1) hT hb hbw hbd (by simp [Value.oneCell']) (by rw [Nat.mul_one]; exact Nat.min_self len) (by omega : len ≤ c) ho hpre
          refine ⟨.tuple #[], w', ?_, fin _ hT'⟩
          have hz' := hz
          unfold zeroT at hz'
          split at hz'
          · rename_i i hi
            split at hz'
            · rename_i z hzz
              simp only [Option.some.injEq] at hz'
              have e1 := zeroCells_rep z.cells (.int k' 0) len hz'
              rw [List.take_of_length_le (by simp), List.map_replicate] at hr
              cases len with
              | zero =>
                have : w' = w := by simp [storeCells] at hr; exact hr.symm
                subst this
                simp [Builtin.clear_, run_underlying ht]
              | succ len => simp [Builtin.clear_, run_underlying ht, zeroValue, typeInfo, hi, hzz, e1, hr]
            · cases hz'
          · cases hz'
      · exact h.elim
    · exact h.elim
  · exact h.elim

theorem zeroCells_all (z : Array Value) (x : Value) (n : Nat) (h : ∀ v ∈ z.toList, v = x) : (Builtin.zeroCells z n).toList = List.replicate (n * z.size) x := by
  apply List.ext_getElem
  · simp [Builtin.zeroCells]
  · intro i h1 h2
    simp only [Builtin.zeroCells, Array.toList_map, Array.toList_range, List.getElem_map, List.getElem_range, List.getElem_replicate]
    have hi : i < n * z.size := by simpa using h2
    have hz : 0 < z.size := by
      rcases Nat.eq_zero_or_pos z.size with h0 | h0
      · rw [h0, Nat.mul_zero] at hi; omega
      · exact h0
    have hm : i % z.size < z.size := Nat.mod_lt _ hz
    rw [getElem!_pos z _ hm]
    exact h _ (by rw [← Array.getElem_toList (h := by simpa using hm)]; exact List.getElem_mem _)
theorem zkind_all {z : List Value} {k : IntKind} (h : zkind z = some k) : ∀ v ∈ z, v = .int k 0 := by
  have key : ∀ (k : IntKind) (l : List Value), zkind.allZ k l = true → ∀ v ∈ l, v = .int k 0 := by
    intro k l
    induction l with
    | nil => intro _ v hv; simp at hv
    | cons a l ih =>
      intro hh v hv
      unfold zkind.allZ at hh
      split at hh
      · simp at *
      · rename_i k' r heq
        cases heq
        rw [Bool.and_eq_true] at hh
        have := of_decide_eq_true hh.1; subst this
        rcases List.mem_cons.1 hv with rfl | hv
        · rfl
        · exact ih hh.2 v hv
      · cases hh
  unfold zkind at h
  split at h
  · split at h
    · rename_i k' r hr
      cases h
      intro v hv
      rcases List.mem_cons.1 hv with rfl | hv
      · rfl
      · exact key _ _ hr v hv
    · cases h
  · cases h

theorem clearS_sound {st : St} {s : SV} {t ty : TypeId} {K : SV → St → Prop} {vs : Value} (hT : TOK ρ σ B st.tbl w) (hs : Rel st.tbl.length ρ σ s vs) (h : clearS P st s t K) :
    ∃ v w', (Builtin.clear_ #[t] ty #[vs]).run P w = .ok v w' ∧ BM B st K ρ σ v w' := by
  unfold clearS at h
  split at h
  · rename_i e j off len cp s' ht
    split at h
    · rename_i sz z hsz hz
      split at h
      · rename_i k b hzk hzl hs' hb
        have hs' := Nat.eq_of_beq_eq_true hs'
        subst hs'
        have hzl := Nat.eq_of_beq_eq_true hzl
        obtain ⟨b', h, hbw, hbd, hover⟩ := overB_sound (ρ := ρ) (σ := σ) (N := st.tbl.length) h
        have hpre := fun pre hp => hover pre ((List.replicate (len * s') 0).map (Value.int k)) hp rfl
        simp only [Rel] at hs
        obtain ⟨hjl, hlc, hs⟩ := hs
        have fin : ∀ w', TOK ρ σ B (st.tbl.set j b') w' → BM B st K ρ σ (.tuple #[]) w' := fun w' hT' =>
          ⟨_, _, ρ, σ, [], h, by simp [Rel, RelL], hT', rfl, rfl, by simp, .inr ⟨rfl, rfl⟩, fun _ _ _ => ⟨rfl, rfl⟩, fun i hi hm => ⟨hm, by simp⟩⟩
        rcases hs with ⟨rfl, rfl, _⟩ | ⟨o, c, rfl, hc, ho, hos⟩
        · refine ⟨.tuple #[], w, ?_, fin _ (over_told hT hb hbw (by rw [Nat.zero_mul]) hpre)⟩
          simp [Builtin.clear_, run_underlying ht]
        · obtain ⟨w', hr, hT'⟩ := over_lies (P := P) (m := len) (len := len) (sz := s') hT hb hbw hbd (by simp [Value.oneCell']) (by rw [show Nat.min len len = len from Nat.min_self len]) (by omega : len ≤ c) ho hpre
          refine ⟨.tuple #[], w', ?_, fin _ hT'⟩
          have hz' := hz
          unfold zeroT at hz'
          split at hz'
          · rename_i i hi
            split at hz'
            · rename_i zz hzz
              simp only [Option.some.injEq] at hz'
              have e1 := zeroCells_all zz.cells (.int k 0) len (by rw [hz']; exact zkind_all hzk)
              have e2 : zz.cells.size = s' := by rw [← hzl, ← hz', Array.length_toList]
              rw [e2] at e1
              rw [List.take_of_length_le (by simp), List.map_replicate, ← e1] at hr
              cases len with
              | zero =>
                have : w' = w := by simp [storeCells, Builtin.zeroCells] at hr; exact hr.symm
                subst this
                simp [Builtin.clear_, run_underlying ht]
              | succ len => simp [Builtin.clear_, run_underlying ht, zeroValue, typeInfo, hi, hzz, hr]
            · cases hz'
          · cases hz'
      · rename_i b hzk hzl hs' hb
        have hs' := Nat.eq_of_beq_eq_true hs'
        subst hs'
        have hzl := Nat.eq_of_beq_eq_true hzl
        split at h
        case h_2 => exact h.elim
        rename_i hone
        obtain ⟨b', h, hbw, hbd, hover⟩ := overB_sound (ρ := ρ) (σ := σ) (N := st.tbl.length) h
        have hpre := fun pre hp => hover pre (repV z len) hp (RelL.vs _)
        simp only [Rel] at hs
        obtain ⟨hjl, hlc, hs⟩ := hs
        have fin : ∀ w', TOK ρ σ B (st.tbl.set j b') w' → BM B st K ρ σ (.tuple #[]) w' := fun w' hT' =>
          ⟨_, _, ρ, σ, [], h, by simp [Rel, RelL], hT', rfl, rfl, by simp, .inr ⟨rfl, rfl⟩, fun _ _ _ => ⟨rfl, rfl⟩, fun i hi hm => ⟨hm, by simp⟩⟩
        have hall : ∀ v ∈ repV z len, v.oneCell' = true := fun v hv => by
          rw [repV_eq] at hv
          obtain ⟨l, hl, hv⟩ := List.mem_flatten.1 hv
          rw [List.eq_of_mem_replicate hl] at hv
          exact oneAll_spec hone v hv
        rcases hs with ⟨rfl, rfl, _⟩ | ⟨o, c, rfl, hc, ho, hos⟩
        · refine ⟨.tuple #[], w, ?_, fin _ (over_told hT hb hbw (by rw [Nat.zero_mul]) hpre)⟩
          simp [Builtin.clear_, run_underlying ht]
        · obtain ⟨w', hr, hT'⟩ := over_lies (P := P) (m := len) (len := len) (sz := s') hT hb hbw hbd hall (by rw [show Nat.min len len = len from Nat.min_self len]) (by omega : len ≤ c) ho hpre
          refine ⟨.tuple #[], w', ?_, fin _ hT'⟩
          have hz' := hz
          unfold zeroT at hz'
          split at hz'
          · rename_i i hi
            split at hz'
            · rename_i zz hzz
              simp only [Option.some.injEq] at hz'
              have e1 : (Builtin.zeroCells zz.cells len).toList = repV z len := by
                have := madeCells_flat zz.cells len
                rw [hz'] at this
                rw [repV_eq, ← this]; rfl
              have hlen : (repV z len).length = len * s' := by rw [repV_eq]; simp [hzl]
              rw [List.take_of_length_le (by omega), ← e1] at hr
              cases len with
              | zero =>
                have : w' = w := by simp [storeCells, Builtin.zeroCells] at hr; exact hr.symm
                subst this
                simp [Builtin.clear_, run_underlying ht]
              | succ len => simp [Builtin.clear_, run_underlying ht, zeroValue, typeInfo, hi, hzz, hr]
            · cases hz'
          · cases hz'
      · exact h.elim
    · exact h.elim
  · exact h.elim

theorem clearT_sound {st : St} {s : SV} {t ty : TypeId} {K : SV → St → Prop} {vs : Value} (hT : TOK ρ σ B st.tbl w) (hs : Rel st.tbl.length ρ σ s vs) (h : clearT P st s t K) :
    ∃ v w', (Builtin.clear_ #[t] ty #[vs]).run P w = .ok v w' ∧ BM B st K ρ σ v w' := by
  unfold clearT at h
  split at h
  · rename_i e j off len cp s' ht
    split at h
    · rename_i sz z q cols hsz hz hb
      split at h
      · rename_i hc
        simp only [Bool.and_eq_true] at hc
        obtain ⟨⟨hzl, hs'⟩, hcl, hone⟩ := hc
        have hs' := Nat.eq_of_beq_eq_true hs'
        subst hs'
        have hzl := Nat.eq_of_beq_eq_true hzl
        have hcl := Nat.eq_of_beq_eq_true hcl
        rw [ob_iff, Bool.and_eq_true] at h
        obtain ⟨⟨hmod, hle⟩, h⟩ := h
        have hmod := Nat.eq_of_beq_eq_true hmod
        have hle := Nat.le_of_ble_eq_true hle
        have hoff : off / s' * s' = off := by
          have := Nat.div_add_mod off s'
          rw [Nat.mul_comm] at this; omega
        have hlen : (repV z len).length = len * s' := by rw [repV_eq]; simp [hzl]
        have hroom : off + len * s' ≤ q * s' := by
          rw [← hoff, ← Nat.add_mul]; exact Nat.mul_le_mul_right _ hle
        have hpre : ∀ pre, Pre st.tbl.length ρ σ (.tab true q cols) pre → len * s' ≤ (repV z len).length ∧ off + len * s' ≤ pre.length ∧ Pre st.tbl.length ρ σ (.cells true ((putAt (rowsL cols q) off (repV z len)).map SV.v)) (putAt pre off ((repV z len).take (len * s'))) := fun pre hp => by
          simp only [Pre] at hp ⊢
          subst hp
          rw [List.take_of_length_le (by omega), rowsL_len, hcl]
          exact ⟨by omega, hroom, RelL.vs _⟩
        have hback : ∀ w', TOK ρ σ B (st.tbl.set j (.cells true ((putAt (rowsL cols q) off (repV z len)).map SV.v))) w' → TOK ρ σ B (st.tbl.set j (.tab true (off / s') cols)) w' := fun w' hT' => by
          have hj : j < st.tbl.length := by rw [nth_eq] at hb; exact (List.getElem?_eq_some_iff.1 hb).1
          have h1 := hT'.toldK off (i := j) (b' := .tab true (off / s') cols) (b := .cells true ((putAt (rowsL cols q) off (repV z len)).map SV.v)) (by simp [hj]) rfl fun pre hp => by
            simp only [Pre] at hp ⊢
            rw [RelL.vs_iff] at hp
            subst hp
            unfold putAt
            have hlo : off ≤ (rowsL cols q).length := by rw [rowsL_len, hcl]; omega
            rw [List.append_assoc, List.take_append_of_le_length (by rw [List.length_take]; omega), List.take_take, Nat.min_self]
            have hd : off / s' ≤ q := by omega
            have := rowsL_take cols hd
            rw [hcl, hoff] at this
            exact this
          rw [List.set_set] at h1
          exact h1
        simp only [Rel] at hs
        obtain ⟨hjl, hlc, hs⟩ := hs
        have fin : ∀ w', TOK ρ σ B (st.tbl.set j (.tab true (off / s') cols)) w' → BM B st K ρ σ (.tuple #[]) w' := fun w' hT' =>
          ⟨_, _, ρ, σ, [], h, by simp [Rel, RelL], hT', rfl, rfl, by simp, .inr ⟨rfl, rfl⟩, fun _ _ _ => ⟨rfl, rfl⟩, fun i hi hm => ⟨hm, by simp⟩⟩
        have hall : ∀ v ∈ repV z len, v.oneCell' = true := fun v hv => by
          rw [repV_eq] at hv
          obtain ⟨l, hl, hv⟩ := List.mem_flatten.1 hv
          rw [List.eq_of_mem_replicate hl] at hv
          exact oneAll_spec hone v hv
        rcases hs with ⟨rfl, rfl, _⟩ | ⟨o, c, rfl, hc, ho, hos⟩
        · refine ⟨.tuple #[], w, ?_, fin _ (hback _ (over_told hT hb rfl (by rw [Nat.zero_mul]) hpre))⟩
          simp [Builtin.clear_, run_underlying ht]
        · obtain ⟨w', hr, hT'⟩ := over_lies (P := P) (m := len) (len := len) (sz := s') hT hb rfl rfl hall (by rw [show Nat.min len len = len from Nat.min_self len]) (by omega : len ≤ c) ho hpre
          refine ⟨.tuple #[], w', ?_, fin _ (hback _ hT')⟩
          have hz' := hz
          unfold zeroT at hz'
          split at hz'
          · rename_i i hi
            split at hz'
            · rename_i zz hzz
              simp only [Option.some.injEq] at hz'
              have e1 : (Builtin.zeroCells zz.cells len).toList = repV z len := by
                have := madeCells_flat zz.cells len
                rw [hz'] at this
                rw [repV_eq, ← this]; rfl
              rw [List.take_of_length_le (by omega), ← e1] at hr
              cases len with
              | zero =>
                have : w' = w := by simp [storeCells, Builtin.zeroCells] at hr; exact hr.symm
                subst this
                simp [Builtin.clear_, run_underlying ht]
              | succ len => simp [Builtin.clear_, run_underlying ht, zeroValue, typeInfo, hi, hzz, hr]
            · cases hz'
          · cases hz'
      · exact h.elim
    · exact h.elim
  · exact h.elim

theorem appI_sound {st : St} {s x : SV} {t t' ty : TypeId} {K : SV → St → Prop} {vs vx : Value} (hT : TOK ρ σ B st.tbl w) (hs : Rel st.tbl.length ρ σ s vs) (hx : Rel st.tbl.length ρ σ x vx) (h : appI P st s x t t' K) :
    ∃ v w', (Builtin.append_ #[t, t'] ty #[vs, vx]).run P w = .ok v w' ∧ BM B st K ρ σ v w' := by
  unfold appI at h
  split at h
  · rename_i e ht hn
    split at h
    · rename_i i hi
      obtain ⟨m, nb, news, h, hnp, hn1, hnl, hlen, hfirst⟩ := newsB_sound (P := P) hT hx h
      split at h
      · rename_i j off len cp s' hst
        clear hst
        split at h
        · rename_i b hs' hb
          have hs' := Nat.eq_of_beq_eq_true hs'
          subst hs'
          rw [ob_iff] at h
          obtain ⟨hroom, h⟩ := h
          have hroom := of_decide_eq_true hroom
          obtain ⟨b', h, hbw, hbd, hover⟩ := overB_sound (ρ := ρ) (σ := σ) (N := st.tbl.length) h
          have hpre := fun pre hp => hover pre news hp hnp
          simp only [Rel] at hs
          obtain ⟨hjl, hlc, hs⟩ := hs
          have hf := hfirst m w (Nat.le_refl _) rfl
          rw [List.take_of_length_le (by omega)] at hf
          rcases hs with ⟨rfl, rfl, rfl⟩ | ⟨o, c, rfl, hc, ho, hos⟩
          · have hm : m = 0 := by omega
            subst hm
            have hnn : news = [] := List.length_eq_zero_iff.1 (by omega)
            subst hnn
            refine ⟨_, w, run_app_none (P := P) ht hi hn hlen hf, _, _, ρ, σ, [], h, ?_, over_told hT hb hbw (by rw [Nat.zero_mul]) hpre, rfl, rfl, by simp, .inr ⟨rfl, rfl⟩, fun _ _ _ => ⟨rfl, rfl⟩, fun i hi hm => ⟨hm, by simp⟩⟩
            simp [Rel, hjl]
          · obtain ⟨w', hr, hT'⟩ := over_lies (P := P) (m := m) (len := m) (sz := i.size) (c := c) (o := o + len * i.size) hT hb hbw hbd hn1 (by rw [show Nat.min m m = m from Nat.min_self m]) (by omega) (by omega) hpre
            rw [List.take_of_length_le (by omega)] at hr
            refine ⟨_, w', run_app_room (P := P) ht hi hn hlen hf ⟨ρ j, (σ j).2 + o, none⟩ len c (by omega) w' (by rw [addr_add, Nat.add_assoc]; exact hr), _, _, ρ, σ, [], h, ?_, hT', rfl, rfl, by simp, .inr ⟨rfl, rfl⟩, fun _ _ _ => ⟨rfl, rfl⟩, fun i hi hm => ⟨hm, by simp⟩⟩
            simp only [Rel]
            exact ⟨by simpa using hjl, by omega, .inr ⟨o, c, rfl, hc, ho, hos⟩⟩
        · exact h.elim
      · exact h.elim
    · exact h.elim
  · exact h.elim

theorem toList_inv {α : Type} {x : Array α} {l : List α} (h : x.toList = l) : x = l.toArray := by rw [← h]

theorem builtinM_sound {st : St} {a : Act} {o : Oper} {c : Call} {b : Builtin} {K : SV → St → Prop} {Q : Exit → Act → World → Prop} (hE : EOK ds st.tbl.length ρ σ st.env st.nt a) (hT : TOK ρ σ B st.tbl w) (ho : o.op = .call c) (hc : c.callee = .builtin b) (h : builtinM P st c b K) :
    o.wp P a w (fun a' w' => ∃ v, a' = a.put o.dst v ∧ BM B st K ρ σ v w') Q := by
  unfold builtinM at h
  split at h
  · rename_i s x t t' hev hty
    have hr := evs_sound hE hev
    simp only [RelL] at hr
    obtain ⟨vs, l1, e1, hs, vx, l2, rfl, hx, rfl⟩ := hr
    obtain ⟨v, w', hrun, hbm⟩ : ∃ v w', (Builtin.append_ #[t, t'] o.type #[vs, vx]).run P w = .ok v w' ∧ BM B st K ρ σ v w' := by
      split at h
      · exact appI_sound (P := P) (ty := o.type) hT hs hx h
      · exact appM_sound (P := P) (ty := o.type) hT hs hx h
    have e2 : c.args.map a.eval = #[vs, vx] := by rw [toList_inv (x := c.args.map a.eval) (l := [vs, vx]) (by simpa using e1)]
    have e3 : c.argTypes = #[t, t'] := toList_inv hty
    unfold Oper.wp execOp
    simp only [ho, hc, resolve, invoke, builtin, e2, e3, Sem.run_bind, Sem.run_pure, Result.andThen_ok, hrun]
    exact ⟨v, rfl, hbm⟩
  · rename_i s x t t' hev hty
    have hr := evs_sound hE hev
    simp only [RelL] at hr
    obtain ⟨vs, l1, e1, hs, vx, l2, rfl, hx, rfl⟩ := hr
    obtain ⟨v, w', hrun, hbm⟩ : ∃ v w', (Builtin.copy_ #[t, t'] o.type #[vs, vx]).run P w = .ok v w' ∧ BM B st K ρ σ v w' := by
      split at h
      · exact copyX_sound (P := P) (t' := t') (ty := o.type) hT hs hx h
      · exact copyM_sound (P := P) (t' := t') (ty := o.type) hT hs hx h
    have e2 : c.args.map a.eval = #[vs, vx] := by rw [toList_inv (x := c.args.map a.eval) (l := [vs, vx]) (by simpa using e1)]
    have e3 : c.argTypes = #[t, t'] := toList_inv hty
    unfold Oper.wp execOp
    simp only [ho, hc, resolve, invoke, builtin, e2, e3, Sem.run_bind, Sem.run_pure, Result.andThen_ok, hrun]
    exact ⟨v, rfl, hbm⟩
  · rename_i s t hev hty
    have hr := evs_sound hE hev
    simp only [RelL] at hr
    obtain ⟨vs, l1, e1, hs, rfl⟩ := hr
    obtain ⟨v, w', hrun, hbm⟩ : ∃ v w', (Builtin.clear_ #[t] o.type #[vs]).run P w = .ok v w' ∧ BM B st K ρ σ v w' := by
      split at h
      · exact clearM_sound (P := P) (ty := o.type) hT hs h
      · split at h
        · exact clearT_sound (P := P) (ty := o.type) hT hs h
        · exact clearS_sound (P := P) (ty := o.type) hT hs h
    have e2 : c.args.map a.eval = #[vs] := by rw [toList_inv (x := c.args.map a.eval) (l := [vs]) (by simpa using e1)]
    have e3 : c.argTypes = #[t] := toList_inv hty
    unfold Oper.wp execOp
    simp only [ho, hc, resolve, invoke, builtin, e2, e3, Sem.run_bind, Sem.run_pure, Result.andThen_ok, hrun]
    exact ⟨v, rfl, hbm⟩
  · rename_i m k t ts hev hty
    have hr := evs_sound hE hev
    simp only [RelL] at hr
    obtain ⟨vm, l1, e1, hm, vk, l2, rfl, hk, rfl⟩ := hr
    have e2 : c.args.map a.eval = #[vm, vk] := by rw [toList_inv (x := c.args.map a.eval) (l := [vm, vk]) (by simpa using e1)]
    have e3 : c.argTypes[0]? = some t := by rw [← Array.getElem?_toList, hty]; rfl
    unfold delM at h
    split at h
    · rename_i kt et i q x hu
      split at h
      · rename_i q' pl b l g hd hb
        rw [nth_eq] at hb
        split at h
        · rename_i hab
          have := of_decide_eq_true hab; subst this
          simp only [Rel] at hm hk
          obtain ⟨hi, rfl⟩ := hm
          subst hk
          obtain ⟨o1, ho1, ho2⟩ := hT.mok.is i _ hb rfl
          obtain ⟨o', h1, h2⟩ := MapIs.del (P := P) (ty := o.type) (x := x) e3 hu hd ho2
          unfold Oper.wp execOp
          simp only [ho, hc, resolve, invoke, builtin, e2, Sem.run_bind, Sem.run_pure, Result.andThen_ok, h2 w (ρ i) ho1]
          exact ⟨_, rfl, _, _, ρ, σ, [], h, by simp [Rel, RelL], hT.putMap hb rfl ho1 rfl h1, rfl, rfl, by simp, .inr ⟨rfl, rfl⟩, fun _ _ _ => ⟨rfl, rfl⟩, fun i _ hm => ⟨hm, by simp⟩⟩
        · exact h.elim
      · exact h.elim
    · exact h.elim
  · exact h.elim
end
end Go.Proofs.YtmnenigmkfnciaaGreatDoor.Sx
