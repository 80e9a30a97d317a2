/- The base of the walk by computation: symbolic values, blocks, what a world must hold of them. No condition. -/
import Derived.WalkKit
import Derived.Test.YtmnenigmkfnciaaGreatDoorSxV
import Derived.Deep.Quiet
import Derived.StillTail
import Derived.KernelRfl
namespace Go.Proofs.YtmnenigmkfnciaaGreatDoor.Sx
open Go

inductive SV where
  | v (x : Value)
  | ptr (i off : Nat)
  | slc (i off len cp s : Nat)
  | agg (l : List SV)
  | ia (k : IntKind) (l : List Int)
  | tup (l : List SV)
  | fn (f : Fn) (first cap : List SV)
  | mp (i : Nat)
  | ifc (t : TypeId) (s : SV)
  | pix (i off s ix c : Nat)
  | unk

mutual
/-- What a value of the machine must be to be told by a symbolic one: 'n' blocks are named, their numbers are ρ, their sizes σ. -/
def Rel (n : Nat) (ρ : Nat → Nat) (σ : Nat → Nat × Nat) : SV → Value → Prop
  | .v x, u => u = x
  | .ptr i off, u => i < n ∧ u = .pointer (some ⟨ρ i, (σ i).2 + off, none⟩)
  | .slc i off len cp s, u => i < n ∧ len ≤ cp ∧ ((u = .slice none 0 0 ∧ len = 0 ∧ cp = 0) ∨
      ∃ o c, u = .slice (some ⟨ρ i, (σ i).2 + o, none⟩) len c ∧ cp ≤ c ∧ (o = off ∨ c = 0) ∧ o + c * s ≤ (σ i).1)
  | .agg l, u => ∃ cs, u = .agg cs ∧ RelL n ρ σ l cs.toList
  | .ia k l, u => u = .agg (l.map (Value.int k)).toArray
  | .tup l, u => ∃ cs, u = .tuple cs ∧ RelL n ρ σ l cs.toList
  | .fn f a b, u => ∃ x y, u = .func f x y ∧ RelL n ρ σ a x.toList ∧ RelL n ρ σ b y.toList
  | .mp i, u => i < n ∧ u = .map (some (ρ i))
  | .ifc t s, u => ∃ x, u = .iface t x ∧ Rel n ρ σ s x
  | .pix i off s ix c, u => i < n ∧ u = .pointer (some ⟨ρ i, (σ i).2 + (off + ix * s + c), none⟩)
  | .unk, _ => True
def RelL (n : Nat) (ρ : Nat → Nat) (σ : Nat → Nat × Nat) : List SV → List Value → Prop
  | [], u => u = []
  | a :: l, u => ∃ b m, u = b :: m ∧ Rel n ρ σ a b ∧ RelL n ρ σ l m
end

mutual
def SV.refs (j : Nat) : SV → Bool
  | .v _ | .ia _ _ | .unk => false
  | .ptr i _ | .slc i _ _ _ _ | .mp i | .pix i _ _ _ _ => Nat.beq i j
  | .agg l | .tup l => SV.refsL j l
  | .fn _ a b => SV.refsL j a || SV.refsL j b
  | .ifc _ s => SV.refs j s
def SV.refsL (j : Nat) : List SV → Bool
  | [] => false
  | a :: l => SV.refs j a || SV.refsL j l
end

mutual
theorem Rel.mono {n n' : Nat} {ρ ρ' : Nat → Nat} {σ σ' : Nat → Nat × Nat} (hn : n ≤ n') : ∀ (s : SV) (u : Value), (∀ i, i < n → s.refs i = true → ρ' i = ρ i ∧ σ' i = σ i) → Rel n ρ σ s u → Rel n' ρ' σ' s u
  | .v x, u, _, h => by simpa [Rel] using h
  | .ptr i off, u, hr, h => by
    simp only [Rel] at h ⊢
    obtain ⟨h1, h2⟩ := h
    have := hr i h1 (by simp [SV.refs])
    exact ⟨by omega, by rw [this.1, this.2]; exact h2⟩
  | .slc i off len cp s, u, hr, h => by
    simp only [Rel] at h ⊢
    obtain ⟨h1, h2, h3⟩ := h
    have := hr i h1 (by simp [SV.refs])
    exact ⟨by omega, h2, by rw [this.1, this.2]; exact h3⟩
  | .agg l, u, hr, h => by
    simp only [Rel] at h ⊢
    obtain ⟨cs, h1, h2⟩ := h
    exact ⟨cs, h1, RelL.mono hn l _ (fun i hi hx => hr i hi (by simpa [SV.refs] using hx)) h2⟩
  | .ia k l, u, _, h => by simpa [Rel] using h
  | .tup l, u, hr, h => by
    simp only [Rel] at h ⊢
    obtain ⟨cs, h1, h2⟩ := h
    exact ⟨cs, h1, RelL.mono hn l _ (fun i hi hx => hr i hi (by simpa [SV.refs] using hx)) h2⟩
  | .fn f a b, u, hr, h => by
    simp only [Rel] at h ⊢
    obtain ⟨x, y, h1, h2, h3⟩ := h
    exact ⟨x, y, h1, RelL.mono hn a _ (fun i hi hx => hr i hi (by simp [SV.refs, hx])) h2, RelL.mono hn b _ (fun i hi hx => hr i hi (by simp [SV.refs, hx])) h3⟩
  | .mp i, u, hr, h => by
    simp only [Rel] at h ⊢
    obtain ⟨h1, h2⟩ := h
    have := hr i h1 (by simp [SV.refs])
    exact ⟨by omega, by rw [this.1]; exact h2⟩
  | .ifc t s, u, hr, h => by
    simp only [Rel] at h ⊢
    obtain ⟨x, h1, h2⟩ := h
    exact ⟨x, h1, Rel.mono hn s x (fun i hi hx => hr i hi (by simpa [SV.refs] using hx)) h2⟩
  | .pix i off s ix c, u, hr, h => by
    simp only [Rel] at h ⊢
    obtain ⟨h1, h2⟩ := h
    have := hr i h1 (by simp [SV.refs])
    exact ⟨by omega, by rw [this.1, this.2]; exact h2⟩
  | .unk, u, _, _ => by simp [Rel]
theorem RelL.mono {n n' : Nat} {ρ ρ' : Nat → Nat} {σ σ' : Nat → Nat × Nat} (hn : n ≤ n') : ∀ (s : List SV) (u : List Value), (∀ i, i < n → SV.refsL i s = true → ρ' i = ρ i ∧ σ' i = σ i) → RelL n ρ σ s u → RelL n' ρ' σ' s u
  | [], u, _, h => by simpa [RelL] using h
  | a :: l, u, hr, h => by
    simp only [RelL] at h ⊢
    obtain ⟨b, m, h1, h2, h3⟩ := h
    exact ⟨b, m, h1, Rel.mono hn a b (fun i hi hx => hr i hi (by simp [SV.refsL, hx])) h2, RelL.mono hn l m (fun i hi hx => hr i hi (by simp [SV.refsL, hx])) h3⟩
end

theorem Rel.ext {n n' : Nat} {ρ ρ' : Nat → Nat} {σ σ' : Nat → Nat × Nat} {s : SV} {u : Value} (h : Rel n ρ σ s u) (hn : n ≤ n') (hr : ∀ i, i < n → ρ' i = ρ i ∧ σ' i = σ i) : Rel n' ρ' σ' s u :=
  Rel.mono hn s u (fun i hi _ => hr i hi) h
theorem RelL.ext {n n' : Nat} {ρ ρ' : Nat → Nat} {σ σ' : Nat → Nat × Nat} {s : List SV} {u : List Value} (h : RelL n ρ σ s u) (hn : n ≤ n') (hr : ∀ i, i < n → ρ' i = ρ i ∧ σ' i = σ i) : RelL n' ρ' σ' s u :=
  RelL.mono hn s u (fun i hi _ => hr i hi) h

section lists
variable {n : Nat} {ρ : Nat → Nat} {σ : Nat → Nat × Nat}
theorem RelL.length : ∀ {l : List SV} {u : List Value}, RelL n ρ σ l u → l.length = u.length
  | [], u, h => by simp only [RelL] at h; subst h; rfl
  | a :: l, u, h => by
    simp only [RelL] at h
    obtain ⟨b, m, rfl, _, h3⟩ := h
    simp [RelL.length h3]
theorem RelL.get : ∀ {l : List SV} {u : List Value} {i : Nat} {s : SV}, RelL n ρ σ l u → l[i]? = some s → ∃ x, u[i]? = some x ∧ Rel n ρ σ s x
  | [], u, i, s, h, hi => by simp at hi
  | a :: l, u, 0, s, h, hi => by
    simp only [RelL] at h
    obtain ⟨b, m, rfl, h2, _⟩ := h
    simp at hi; subst hi
    exact ⟨b, rfl, h2⟩
  | a :: l, u, i + 1, s, h, hi => by
    simp only [RelL] at h
    obtain ⟨b, m, rfl, _, h3⟩ := h
    simp at hi
    simpa using RelL.get h3 hi
theorem RelL.take : ∀ {l : List SV} {u : List Value} (k : Nat), RelL n ρ σ l u → RelL n ρ σ (l.take k) (u.take k)
  | [], u, k, h => by simp only [RelL] at h; subst h; simp [RelL]
  | a :: l, u, 0, h => by simp [RelL]
  | a :: l, u, k + 1, h => by
    simp only [RelL] at h
    obtain ⟨b, m, rfl, h2, h3⟩ := h
    simp only [List.take_succ_cons, RelL]
    exact ⟨b, _, rfl, h2, RelL.take k h3⟩
theorem RelL.drop : ∀ {l : List SV} {u : List Value} (k : Nat), RelL n ρ σ l u → RelL n ρ σ (l.drop k) (u.drop k)
  | [], u, k, h => by simp only [RelL] at h; subst h; simp [RelL]
  | a :: l, u, 0, h => by simpa using h
  | a :: l, u, k + 1, h => by
    simp only [RelL] at h
    obtain ⟨b, m, rfl, _, h3⟩ := h
    simpa using RelL.drop k h3
theorem RelL.append : ∀ {l l' : List SV} {u u' : List Value}, RelL n ρ σ l u → RelL n ρ σ l' u' → RelL n ρ σ (l ++ l') (u ++ u')
  | [], l', u, u', h, h' => by simp only [RelL] at h; subst h; simpa using h'
  | a :: l, l', u, u', h, h' => by
    simp only [RelL] at h
    obtain ⟨b, m, rfl, h2, h3⟩ := h
    simp only [List.cons_append, RelL]
    exact ⟨b, _, rfl, h2, RelL.append h3 h'⟩
theorem RelL.set : ∀ {l : List SV} {u : List Value} {s : SV} {x : Value} (k : Nat), RelL n ρ σ l u → Rel n ρ σ s x → RelL n ρ σ (l.set k s) (u.set k x)
  | [], u, s, x, k, h, _ => by simp only [RelL] at h; subst h; simp [RelL]
  | a :: l, u, s, x, 0, h, hs => by
    simp only [RelL] at h
    obtain ⟨b, m, rfl, h2, h3⟩ := h
    simp only [List.set_cons_zero, RelL]
    exact ⟨x, m, rfl, hs, h3⟩
  | a :: l, u, s, x, k + 1, h, hs => by
    simp only [RelL] at h
    obtain ⟨b, m, rfl, h2, h3⟩ := h
    simp only [List.set_cons_succ, RelL]
    exact ⟨b, _, rfl, h2, RelL.set k h3 hs⟩
/-- A list of plain values. -/
theorem RelL.vs : ∀ (u : List Value), RelL n ρ σ (u.map SV.v) u
  | [] => by simp [RelL]
  | a :: l => by simp only [List.map_cons, RelL]; exact ⟨a, l, rfl, by simp [Rel], RelL.vs l⟩
theorem RelL.vs_iff : ∀ (x u : List Value), RelL n ρ σ (x.map SV.v) u ↔ u = x
  | [], u => by simp [RelL]
  | a :: l, u => by
    simp only [List.map_cons, RelL, Rel]
    constructor
    · rintro ⟨b, m, rfl, rfl, h⟩
      rw [(RelL.vs_iff l m).1 h]
    · rintro rfl
      exact ⟨a, l, rfl, rfl, (RelL.vs_iff l l).2 rfl⟩
end lists

/-- A column of rows: what each row has there. -/
inductive Col where
  | i (k : IntKind) (f : Nat → Int)
  | s (f : Nat → ByteArray)
  | b (f : Nat → Bool)
def Col.at (r : Nat) : Col → Value
  | .i k f => .int k (f r)
  | .s f => .string (f r)
  | .b f => .bool (f r)
/-- One row's cells. -/
def rowL (cols : List Col) (r : Nat) : List Value := cols.map (Col.at r)
/-- The first rows. -/
def rowsL (cols : List Col) : Nat → List Value
  | 0 => []
  | n + 1 => rowsL cols n ++ rowL cols n
theorem rowL_len (cols : List Col) (r : Nat) : (rowL cols r).length = cols.length := by simp [rowL]
theorem rowsL_len (cols : List Col) : ∀ n, (rowsL cols n).length = n * cols.length
  | 0 => by simp [rowsL]
  | n + 1 => by rw [rowsL, List.length_append, rowsL_len cols n, rowL_len, Nat.succ_mul]
theorem rowsL_take (cols : List Col) {m : Nat} : ∀ {n : Nat}, m ≤ n → (rowsL cols n).take (m * cols.length) = rowsL cols m
  | 0, h => by have : m = 0 := by omega
               subst this; simp [rowsL]
  | n + 1, h => by
    rcases Nat.lt_or_ge n m with h1 | h1
    · have : m = n + 1 := by omega
      subst this
      exact List.take_of_length_le (by rw [rowsL_len]; exact Nat.le_refl _)
    · rw [rowsL, List.take_append_of_le_length (by rw [rowsL_len]; exact Nat.mul_le_mul_right _ h1), rowsL_take cols h1]
theorem rowsL_get (cols : List Col) : ∀ n r c, r < n → c < cols.length → (rowsL cols n)[r * cols.length + c]? = (cols[c]?).map (Col.at r)
  | 0, r, c, h, _ => absurd h (by omega)
  | n + 1, r, c, h, hc => by
    rw [rowsL]
    have hl := rowsL_len cols n
    by_cases e : r = n
    · subst e
      rw [List.getElem?_append_right (by omega), hl, Nat.add_sub_cancel_left, rowL, List.getElem?_map]
    · have h1 : r < n := by omega
      have h2 : r * cols.length + cols.length ≤ n * cols.length := by rw [← Nat.succ_mul]; exact Nat.mul_le_mul_right _ h1
      rw [List.getElem?_append_left (by omega), rowsL_get cols n r c h1 hc]

/-- A map's keys, in the order in which they came. -/
inductive KS where
  | i (k : IntKind) (l : List Int)
  | s (l : List ByteArray)
  | c (k : IntKind) (us : List Int) (f : Int → Bool)
def KS.vals : KS → List Value
  | .i k l => l.map (Value.int k)
  | .s l => l.map Value.string
  | .c k us _ => us.map (Value.int k)
def KS.len : KS → Option Nat
  | .i _ l => some l.length
  | .s l => some l.length
  | .c _ _ _ => none
/-- A map's keys are these: all of them as they came; or of a few those of which f holds. -/
def KS.Is : KS → List Value → Prop
  | .i k l, u => u = l.map (Value.int k)
  | .s l, u => u = l.map Value.string
  | .c k us f, u => ∀ v, v ∈ u ↔ ∃ x, x ∈ us ∧ f x = true ∧ v = .int k x
theorem KS.Is.mem {ks : KS} {u : List Value} (h : ks.Is u) {v : Value} (hv : v ∈ u) : v ∈ ks.vals := by
  cases ks with
  | i k l => simp only [KS.Is] at h; rw [h] at hv; exact hv
  | s l => simp only [KS.Is] at h; rw [h] at hv; exact hv
  | c k us f =>
    simp only [KS.Is] at h
    obtain ⟨x, hx, _, rfl⟩ := (h v).1 hv
    exact List.mem_map_of_mem hx
theorem KS.Is.nil {ks : KS} (h : ks.vals = []) : ks.Is [] := by
  cases ks with
  | i k l => simp only [KS.Is]; exact h.symm
  | s l => simp only [KS.Is]; exact h.symm
  | c k us f =>
    simp only [KS.vals, List.map_eq_nil_iff] at h
    subst h
    simp [KS.Is]
theorem KS.Is.len {ks : KS} {u : List Value} (h : ks.Is u) {n : Nat} (hn : ks.len = some n) : u.length = n := by
  cases ks with
  | i k l => simp only [KS.Is] at h; simp [KS.len] at hn; rw [h, List.length_map, hn]
  | s l => simp only [KS.Is] at h; simp [KS.len] at hn; rw [h, List.length_map, hn]
  | c k us f => cases hn

/-- What is known of a block: its first cells; 'w': may it be written? -/
inductive Blk where
  | dead
  | cells (w : Bool) (l : List SV)
  | ints (w : Bool) (k : IntKind) (l : List Int)
  | tab (w : Bool) (n : Nat) (cols : List Col)
  | map (w pl : Bool) (ks : KS) (g : Value → SV)

def Blk.wr : Blk → Bool
  | .dead | .map _ _ _ _ => false
  | .cells w _ | .ints w _ _ | .tab w _ _ => w
def Blk.len : Blk → Nat
  | .dead | .map _ _ _ _ => 0
  | .cells _ l => l.length
  | .ints _ _ l => l.length
  | .tab _ n cols => n * cols.length
/-- Not a row of cells. -/
def Blk.isDead : Blk → Bool
  | .dead | .map _ _ _ _ => true
  | _ => false
def anyK (p : Value → Bool) : List Value → Bool
  | [] => false
  | k :: r => p k || anyK p r
theorem anyK_iff {p : Value → Bool} : ∀ {l : List Value}, anyK p l = true ↔ ∃ k ∈ l, p k = true
  | [] => by simp [anyK]
  | k :: r => by simp [anyK, anyK_iff (l := r)]
def Blk.refs (j : Nat) : Blk → Bool
  | .cells _ l => SV.refsL j l
  | .map _ pl ks g => match pl with
    | true => false
    | false => anyK (fun k => (g k).refs j) ks.vals
  | _ => false

/-- The block's first cells are these. -/
def Pre (n : Nat) (ρ : Nat → Nat) (σ : Nat → Nat × Nat) : Blk → List Value → Prop
  | .dead, _ | .map _ _ _ _, _ => False
  | .cells _ l, u => RelL n ρ σ l u
  | .ints _ k l, u => u = l.map (Value.int k)
  | .tab _ n cols, u => u = rowsL cols n

theorem Pre.length {n : Nat} {ρ : Nat → Nat} {σ : Nat → Nat × Nat} {b : Blk} {u : List Value} (h : Pre n ρ σ b u) : u.length = b.len := by
  cases b with
  | dead => exact h.elim
  | cells w l => exact (RelL.length h).symm
  | ints w k l => simp only [Pre] at h; subst h; simp [Blk.len]
  | tab w n cols => simp only [Pre] at h; subst h; exact rowsL_len cols n
  | map w pl ks g => exact h.elim

theorem Pre.mono {n n' : Nat} {ρ ρ' : Nat → Nat} {σ σ' : Nat → Nat × Nat} (hn : n ≤ n') {b : Blk} {u : List Value} (hr : ∀ i, i < n → b.refs i = true → ρ' i = ρ i ∧ σ' i = σ i) (h : Pre n ρ σ b u) : Pre n' ρ' σ' b u := by
  cases b with
  | dead => exact h.elim
  | cells w l => exact RelL.mono hn l u hr h
  | ints w k l => exact h
  | tab w n cols => exact h
  | map w pl ks g => exact h.elim

/-- What a map's object is. -/
def MapIs (n : Nat) (ρ : Nat → Nat) (σ : Nat → Nat × Nat) (pl : Bool) (ks : KS) (g : Value → SV) (o : Obj) : Prop :=
  ∃ es clock, o = .map es clock ∧ ks.Is (es.toList.map (·.key)) ∧ (es.toList.map (·.key)).Nodup ∧ (∀ e ∈ es.toList, Rel n ρ σ (g e.key) e.val) ∧ (es.toList.map (·.born)).Pairwise (· < ·) ∧ (∀ e ∈ es.toList, e.born < clock) ∧ (pl = true → ∀ k ∈ ks.vals, ∀ j, (g k).refs j = false)
theorem MapIs.mono {n n' : Nat} {ρ ρ' : Nat → Nat} {σ σ' : Nat → Nat × Nat} {w pl : Bool} {ks : KS} {g : Value → SV} {o : Obj} (hn : n ≤ n') (hr : ∀ i, i < n → (Blk.map w pl ks g).refs i = true → ρ' i = ρ i ∧ σ' i = σ i) (h : MapIs n ρ σ pl ks g o) : MapIs n' ρ' σ' pl ks g o := by
  obtain ⟨es, clock, h1, h2, h3, h4, h5, h6, h7⟩ := h
  refine ⟨es, clock, h1, h2, h3, fun e he => Rel.mono hn _ _ (fun i hi hx => hr i hi ?_) (h4 e he), h5, h6, h7⟩
  have hk : e.key ∈ ks.vals := h2.mem (List.mem_map_of_mem he)
  simp only [Blk.refs]
  cases pl with
  | true => rw [h7 rfl e.key hk i] at hx; cases hx
  | false => exact anyK_iff.2 ⟨e.key, hk, hx⟩

/-- A view of a block of the heap: z.1 cells from z.2 on, none frozen, the first ones these. -/
def Lies (w : World) (b : Nat) (z : Nat × Nat) (pre : List Value) : Prop :=
  ∃ cs T fr head rest, w.heap[b]? = some (.cells cs T fr) ∧ z.2 + z.1 ≤ cs.size ∧ (∀ o, o < z.1 → (decide (fr.1 ≤ z.2 + o) && decide (z.2 + o < fr.2)) = false) ∧ cs.toList = head ++ (pre ++ rest) ∧ head.length = z.2 ∧ pre.length ≤ z.1

theorem Lies.lt {w : World} {b : Nat} {z : Nat × Nat} {pre : List Value} (h : Lies w b z pre) : b < w.heap.size := by
  obtain ⟨cs, T, fr, head, rest, h1, _⟩ := h
  exact (Array.getElem?_eq_some_iff.1 h1).1

theorem Lies.of_block {w w' : World} {b : Nat} {z : Nat × Nat} {pre : List Value} (h : Lies w b z pre) (e : w'.heap[b]? = w.heap[b]?) : Lies w' b z pre := by
  obtain ⟨cs, T, fr, head, rest, h1, h2⟩ := h
  exact ⟨cs, T, fr, head, rest, e.trans h1, h2⟩

theorem Lies.cell {w : World} {b : Nat} {z : Nat × Nat} {pre : List Value} (h : Lies w b z pre) {o : Nat} {x : Value} (hx : pre[o]? = some x) : w.cell? ⟨b, z.2 + o, none⟩ = some x := by
  obtain ⟨cs, T, fr, head, rest, h1, _, _, h4, h5, _⟩ := h
  have ho : o < pre.length := (List.getElem?_eq_some_iff.1 hx).1
  have : cs[z.2 + o]? = some x := by
    rw [← Array.getElem?_toList, h4, List.getElem?_append_right (by omega), h5, Nat.add_sub_cancel_left, List.getElem?_append_left ho]; exact hx
  simp [World.cell?, h1, this]

theorem Lies.cell_some {w : World} {b : Nat} {z : Nat × Nat} {pre : List Value} (h : Lies w b z pre) {o : Nat} (ho : o < z.1) : ∃ x, w.cell? ⟨b, z.2 + o, none⟩ = some x := by
  obtain ⟨cs, T, fr, head, rest, h1, h2, _⟩ := h
  have : z.2 + o < cs.size := by omega
  exact ⟨cs[z.2 + o], by simp [World.cell?, h1, this]⟩

theorem Lies.frozen {w : World} {b : Nat} {z : Nat × Nat} {pre : List Value} (h : Lies w b z pre) {o : Nat} (ho : o < z.1) : w.frozen? ⟨b, z.2 + o, none⟩ = false := by
  obtain ⟨cs, T, fr, head, rest, h1, h2, h3, _⟩ := h
  simp only [World.frozen?, h1]
  exact h3 o ho

theorem Lies.pre_le {w : World} {b : Nat} {z : Nat × Nat} {pre : List Value} (h : Lies w b z pre) : pre.length ≤ z.1 := by
  obtain ⟨cs, T, fr, head, rest, h1, h2, h3, h4, h5, h6⟩ := h
  exact h6

/-- A store into one cell. -/
theorem Lies.set {w : World} {b : Nat} {z : Nat × Nat} {pre : List Value} (h : Lies w b z pre) (o : Nat) (x : Value) : Lies (w.setCell ⟨b, z.2 + o, none⟩ x) b z (pre.set o x) := by
  obtain ⟨cs, T, fr, head, rest, h1, h2, h3, h4, h5, h6⟩ := h
  have hh : (w.setCell ⟨b, z.2 + o, none⟩ x).heap[b]? = some (.cells (cs.setIfInBounds (z.2 + o) x) T fr) := by simp [World.setCell, Array.getElem?_modify, h1]
  by_cases ho : o < pre.length
  · refine ⟨_, T, fr, head, rest, hh, by simpa using h2, h3, ?_, h5, by simpa using h6⟩
    rw [Array.toList_setIfInBounds, h4, List.set_append_right _ _ (by omega), h5, Nat.add_sub_cancel_left, List.set_append_left _ _ ho]
  · have e : pre.set o x = pre := List.set_eq_of_length_le (by omega)
    refine ⟨_, T, fr, head, rest.set (o - pre.length) x, hh, by simpa using h2, h3, ?_, h5, by simpa using h6⟩
    rw [Array.toList_setIfInBounds, h4, List.set_append_right _ _ (by omega), h5, Nat.add_sub_cancel_left, List.set_append_right _ _ (by omega), e]

/-- A store into the cell behind the known ones. -/
theorem Lies.push {w : World} {b : Nat} {z : Nat × Nat} {pre : List Value} (h : Lies w b z pre) (x : Value) (hs : pre.length < z.1) : Lies (w.setCell ⟨b, z.2 + pre.length, none⟩ x) b z (pre ++ [x]) := by
  obtain ⟨cs, T, fr, head, rest, h1, h2, h3, h4, h5, h6⟩ := h
  have hl := congrArg List.length h4
  simp at hl
  obtain ⟨y, rest, rfl⟩ : ∃ y r, rest = y :: r := by
    cases rest with
    | nil => simp at hl; omega
    | cons y r => exact ⟨y, r, rfl⟩
  refine ⟨cs.setIfInBounds (z.2 + pre.length) x, T, fr, head, rest, ?_, by simpa using h2, h3, ?_, h5, by simp; omega⟩
  · simp [World.setCell, Array.getElem?_modify, h1]
  · rw [Array.toList_setIfInBounds, h4, List.set_append_right _ _ (by omega), h5, Nat.add_sub_cancel_left, List.set_append_right _ _ (by omega)]
    simp

theorem Lies.weaken {w : World} {b : Nat} {z : Nat × Nat} {pre : List Value} (k : Nat) (h : Lies w b z pre) : Lies w b z (pre.take k) := by
  obtain ⟨cs, T, fr, head, rest, h1, h2, h3, h4, h5, h6⟩ := h
  exact ⟨cs, T, fr, head, pre.drop k ++ rest, h1, h2, h3, by rw [h4, ← List.append_assoc (pre.take k), List.take_append_drop], h5, by simp; omega⟩

/-- 'vs' laid over 'pre' from o on. -/
def putAt {α : Type} (pre : List α) (o : Nat) (vs : List α) : List α := pre.take o ++ vs ++ pre.drop (o + vs.length)

theorem putAt_nil {α : Type} (pre : List α) (o : Nat) : putAt pre o [] = pre := by simp [putAt]
theorem putAt_cons {α : Type} (pre : List α) (o : Nat) (x : α) (vs : List α) (h : o ≤ pre.length) :
    putAt pre o (x :: vs) = putAt (if o < pre.length then pre.set o x else pre ++ [x]) (o + 1) vs := by
  unfold putAt
  split
  · rename_i ho
    rw [List.take_set, List.take_succ_eq_append_getElem ho, List.set_append_right _ _ (by simp; omega)]
    rw [List.drop_set_of_lt (by omega)]
    have e : (List.take o pre).length = o := by simp; omega
    simp [e, Nat.add_assoc, Nat.add_comm 1]
  · have e : o = pre.length := by omega
    subst e
    rw [List.take_of_length_le (by simp), List.take_of_length_le (by simp), List.drop_of_length_le (by simp), List.drop_of_length_le (by simp)]
    simp
theorem putAt_length {α : Type} (pre : List α) (o : Nat) (vs : List α) (h : o ≤ pre.length) : (putAt pre o vs).length = max pre.length (o + vs.length) := by
  unfold putAt; simp; omega
theorem putAt_map {α β : Type} (f : α → β) (pre : List α) (o : Nat) (vs : List α) : (putAt pre o vs).map f = putAt (pre.map f) o (vs.map f) := by
  unfold putAt; simp [List.map_take, List.map_drop]
theorem RelL.putAt {n : Nat} {ρ : Nat → Nat} {σ : Nat → Nat × Nat} {l l' : List SV} {u u' : List Value} (o : Nat) (h : RelL n ρ σ l u) (h' : RelL n ρ σ l' u') : RelL n ρ σ (putAt l o l') (putAt u o u') := by
  unfold Sx.putAt
  rw [RelL.length h']
  exact ((h.take o).append h').append (h.drop _)

/-- All but block b as it was. -/
structure But (b : Nat) (w w' : World) : Prop where
  os : w'.os = w.os
  tape : w'.tape = w.tape
  output : w'.output = w.output
  size : w'.heap.size = w.heap.size
  block : ∀ k, k ≠ b → w'.heap[k]? = w.heap[k]?

theorem But.refl (b : Nat) (w : World) : But b w w := ⟨rfl, rfl, rfl, rfl, fun _ _ => rfl⟩
theorem But.trans {b : Nat} {w w' w'' : World} (h : But b w w') (h' : But b w' w'') : But b w w'' :=
  ⟨h'.os.trans h.os, h'.tape.trans h.tape, h'.output.trans h.output, h'.size.trans h.size, fun k hk => (h'.block k hk).trans (h.block k hk)⟩
theorem But.setCell (w : World) (b o : Nat) (x : Value) : But b w (w.setCell ⟨b, o, none⟩ x) :=
  ⟨rfl, rfl, rfl, by simp, fun k hk => heap_setCell_other w ⟨b, o, none⟩ k x hk⟩

theorem addr_add (b o i : Nat) : (⟨b, o, none⟩ : Addr).add i = ⟨b, o + i, none⟩ := by
  unfold Addr.add; split <;> simp_all

theorem run_storeCells_lies {P : Program} {b : Nat} {z : Nat × Nat} (o : Nat) : ∀ (vs : List Value) (i : Nat) (pre : List Value) (w : World), Lies w b z pre → o + i ≤ pre.length → o + i + vs.length ≤ z.1 →
    (∀ v ∈ vs, v.oneCell' = true) → ∃ w', (storeCells ⟨b, z.2 + o, none⟩ vs i).run P w = .ok () w' ∧ Lies w' b z (putAt pre (o + i) vs) ∧ But b w w'
  | [], i, pre, w, h, _, _, _ => ⟨w, rfl, by rw [putAt_nil]; exact h, But.refl b w⟩
  | x :: vs, i, pre, w, h, ho, hs, h1 => by
    simp only [List.length_cons] at hs
    obtain ⟨y, hy⟩ := h.cell_some (o := o + i) (by omega)
    have hf := h.frozen (o := o + i) (by omega)
    have hst : (store ⟨b, z.2 + (o + i), none⟩ x).run P w = .ok () (w.setCell ⟨b, z.2 + (o + i), none⟩ x) := by
      rw [run_store P w _ _ _ (h1 x (by simp)), hy]; simp [hf]
    have hl : Lies (w.setCell ⟨b, z.2 + (o + i), none⟩ x) b z (if o + i < pre.length then pre.set (o + i) x else pre ++ [x]) := by
      split
      · exact h.set _ _
      · have e : o + i = pre.length := by omega
        rw [e]; exact h.push x (by omega)
    obtain ⟨w', hr, hl', hb⟩ := run_storeCells_lies o vs (i + 1) _ _ hl (by split <;> simp <;> omega) (by omega) (fun v hv => h1 v (by simp [hv]))
    refine ⟨w', ?_, ?_, (But.setCell w b _ x).trans hb⟩
    · simp only [storeCells, Sem.run_bind, addr_add, Nat.add_assoc, hst, Result.andThen_ok]
      exact hr
    · rw [putAt_cons _ _ _ _ ho]; exact hl'

theorem run_loadCells_lies {P : Program} {w : World} {b : Nat} {z : Nat × Nat} {pre : List Value} (h : Lies w b z pre) (o k : Nat) (hk : o + k ≤ pre.length) :
    (loadCells ⟨b, z.2 + o, none⟩ k).run P w = .ok ((pre.drop o).take k).toArray w := by
  have := run_loadCells_list (P := P) w ⟨b, z.2 + o, none⟩ ((pre.drop o).take k) (fun j v hv => by
    rw [addr_add, Nat.add_assoc]
    refine h.cell ?_
    rw [List.getElem?_take] at hv
    split at hv
    · simpa using hv
    · simp at hv)
  have e : ((pre.drop o).take k).length = k := by simp; omega
  rwa [e] at this

/-- The world w against the world w0: of the blocks that were there only those in A may have turned. -/
structure Fr (A : List Nat) (w0 w : World) : Prop where
  os : w.os = w0.os
  tape : w.tape = w0.tape
  output : w.output = w0.output
  size : w0.heap.size ≤ w.heap.size
  block : ∀ k, k < w0.heap.size → k ∉ A → w.heap[k]? = w0.heap[k]?

theorem Fr.refl (A : List Nat) (w : World) : Fr A w w := ⟨rfl, rfl, rfl, Nat.le_refl _, fun _ _ _ => rfl⟩
theorem Fr.below {w0 w : World} (h : Fr [] w0 w) : RowKit.Below w0.heap.size w0 w :=
  ⟨h.os, h.tape, h.output, h.size, fun k hk => h.block k hk (by simp)⟩
theorem Fr.but {A : List Nat} {w0 w w' : World} {b : Nat} (h : Fr A w0 w) (hb : But b w w') (hA : b ∈ A ∨ w0.heap.size ≤ b) : Fr A w0 w' :=
  ⟨hb.os.trans h.os, hb.tape.trans h.tape, hb.output.trans h.output, by rw [hb.size]; exact h.size, fun k hk hkA => by
    rw [hb.block k (by rintro rfl; rcases hA with h | h <;> first | exact hkA h | omega)]; exact h.block k hk hkA⟩
theorem Fr.alloc {A : List Nat} {w0 w : World} (h : Fr A w0 w) (o : Obj) : Fr A w0 (w.alloc o) :=
  ⟨h.os, h.tape, h.output, by simp; have := h.size; omega, fun k hk hkA => by
    rw [RowKit.Below.heap_alloc w o k (Nat.lt_of_lt_of_le hk h.size)]; exact h.block k hk hkA⟩
theorem Fr.drew {A : List Nat} {w0 w : World} (h : Fr A w0 w) (d : Nat) : Fr A w0 { w with drawn := d } :=
  ⟨h.os, h.tape, h.output, h.size, h.block⟩
/-- A call that was made in w, as w0 sees it. -/
theorem Fr.call {A A' : List Nat} {w0 w w' : World} (h : Fr A w0 w) (h' : Fr A' w w') (hA : ∀ k ∈ A', k ∈ A ∨ w0.heap.size ≤ k) : Fr A w0 w' :=
  ⟨h'.os.trans h.os, h'.tape.trans h.tape, h'.output.trans h.output, Nat.le_trans h.size h'.size, fun k hk hkA => by
    rw [h'.block k (Nat.lt_of_lt_of_le hk h.size) (fun hx => by rcases hA k hx with h | h <;> first | exact hkA h | omega)]; exact h.block k hk hkA⟩

/-- Where a call began: the world, the blocks of its arguments, those of them that may be written. -/
structure Base where
  A : List Nat
  W : List Nat
  AM : List Nat := []
  WM : List Nat := []
  w0 : World
  n0 : Nat := 0

def Blk.isMap : Blk → Bool
  | .map _ _ _ _ => true
  | _ => false
def Blk.mw : Blk → Bool
  | .map w _ _ _ => w
  | _ => false
theorem isDead_of_isMap {b : Blk} (h : b.isMap = true) : b.isDead = true := by cases b <;> simp_all [Blk.isMap, Blk.isDead]
theorem isMap_of_mw {b : Blk} (h : b.mw = true) : b.isMap = true := by cases b <;> simp_all [Blk.isMap, Blk.mw]
theorem not_isMap {b : Blk} (h : b.isDead = false) : b.isMap = false := by cases b <;> simp_all [Blk.isMap, Blk.isDead]
def MapB (n : Nat) (ρ : Nat → Nat) (σ : Nat → Nat × Nat) : Blk → Obj → Prop
  | .map _ pl ks g, o => MapIs n ρ σ pl ks g o
  | _, _ => False
theorem MapB.mono {n n' : Nat} {ρ ρ' : Nat → Nat} {σ σ' : Nat → Nat × Nat} {b : Blk} {o : Obj} (hn : n ≤ n') (hr : ∀ i, i < n → b.refs i = true → ρ' i = ρ i ∧ σ' i = σ i) (h : MapB n ρ σ b o) : MapB n' ρ' σ' b o := by
  cases b with
  | map w pl ks g => exact MapIs.mono hn hr h
  | _ => exact h.elim
theorem MapB.obj {n : Nat} {ρ : Nat → Nat} {σ : Nat → Nat × Nat} {b : Blk} {o : Obj} (h : MapB n ρ σ b o) : ∃ es clock, o = .map es clock := by
  cases b with
  | map w pl ks g => obtain ⟨es, clock, h, _⟩ := h; exact ⟨es, clock, h⟩
  | _ => exact h.elim

/-- What the table says of maps. -/
structure MOK (ρ : Nat → Nat) (σ : Nat → Nat × Nat) (B : Base) (tbl : List Blk) (w : World) : Prop where
  is : ∀ i b, tbl[i]? = some b → b.isMap = true → ∃ o, w.heap[ρ i]? = some o ∧ MapB tbl.length ρ σ b o
  dom : ∀ i b, tbl[i]? = some b → b.isMap = true → ρ i ∈ B.AM ∨ B.w0.heap.size ≤ ρ i
  domw : ∀ i b, tbl[i]? = some b → b.mw = true → ρ i ∈ B.WM ∨ B.w0.heap.size ≤ ρ i
  inj : ∀ i j b c, tbl[i]? = some b → tbl[j]? = some c → b.isMap = true → c.isMap = true → ρ i = ρ j → i = j

/-- Each map of a table is one of another table's. -/
theorem MOK.via {ρ ρ' : Nat → Nat} {σ σ' : Nat → Nat × Nat} {B B' : Base} {tbl tbl' : List Blk} {w w' : World} (h : MOK ρ σ B tbl w) (f : Nat → Nat)
    (hf : ∀ i b, tbl'[i]? = some b → b.isMap = true → ∃ c, tbl[f i]? = some c ∧ c.isMap = true ∧ ρ' i = ρ (f i) ∧ w'.heap[ρ (f i)]? = w.heap[ρ (f i)]? ∧ (∀ o, MapB tbl.length ρ σ c o → MapB tbl'.length ρ' σ' b o) ∧ (b.mw = true → c.mw = true) ∧
      ((ρ (f i) ∈ B.AM ∨ B.w0.heap.size ≤ ρ (f i)) → ρ (f i) ∈ B'.AM ∨ B'.w0.heap.size ≤ ρ (f i)) ∧ (b.mw = true → (ρ (f i) ∈ B.WM ∨ B.w0.heap.size ≤ ρ (f i)) → ρ (f i) ∈ B'.WM ∨ B'.w0.heap.size ≤ ρ (f i)))
    (finj : ∀ i j b c, tbl'[i]? = some b → tbl'[j]? = some c → b.isMap = true → c.isMap = true → f i = f j → i = j) : MOK ρ' σ' B' tbl' w' := by
  refine ⟨fun i b hi hb => ?_, fun i b hi hb => ?_, fun i b hi hb => ?_, fun i j b c hi hj hb hc he => ?_⟩
  · obtain ⟨c, h1, h2, h3, h4, h5, _⟩ := hf i b hi hb
    obtain ⟨o, g1, g2⟩ := h.is _ c h1 h2
    exact ⟨o, by rw [h3, h4]; exact g1, h5 o g2⟩
  · obtain ⟨c, h1, h2, h3, _, _, _, h7, _⟩ := hf i b hi hb
    rw [h3]; exact h7 (h.dom _ c h1 h2)
  · obtain ⟨c, h1, h2, h3, _, _, h6, _, h8⟩ := hf i b hi (isMap_of_mw hb)
    rw [h3]; exact h8 hb (h.domw _ c h1 (h6 hb))
  · obtain ⟨b', h1, h2, h3, _⟩ := hf i b hi hb
    obtain ⟨c', g1, g2, g3, _⟩ := hf j c hj hc
    rw [h3, g3] at he
    exact finj i j b c hi hj hb hc (h.inj _ _ b' c' h1 g1 h2 g2 he)
/-- The same table, in a world in which the maps are as they were. -/
theorem MOK.turn {ρ : Nat → Nat} {σ : Nat → Nat × Nat} {B : Base} {tbl : List Blk} {w w' : World} (h : MOK ρ σ B tbl w) (hb : ∀ i b, tbl[i]? = some b → b.isMap = true → w'.heap[ρ i]? = w.heap[ρ i]?) : MOK ρ σ B tbl w' :=
  h.via id (fun i b hi hm => ⟨b, hi, hm, rfl, hb i b hi hm, fun _ h => h, fun h => h, fun h => h, fun _ h => h⟩) (fun _ _ _ _ _ _ _ _ h => h)
theorem MOK.base {ρ : Nat → Nat} {σ : Nat → Nat × Nat} {B B' : Base} {tbl : List Blk} {w : World} (h : MOK ρ σ B tbl w) (hA : B'.AM = B.AM) (hW : B'.WM = B.WM) (h0 : B'.w0 = B.w0) : MOK ρ σ B' tbl w :=
  ⟨h.is, fun i b hi hb => by rw [hA, h0]; exact h.dom i b hi hb, fun i b hi hb => by rw [hW, h0]; exact h.domw i b hi hb, h.inj⟩

/-- The package variables that are known hold what they should, and are in no way of these blocks. -/
def GOK (W : List Nat) (w : World) : Prop := ∀ p ∈ Gl, p.1 ∉ W ∧ ∃ cs T fr, w.heap[p.1]? = some (.cells cs T fr) ∧ cs.toList = p.2.2.map (Value.int p.2.1)

/-- What the table says of the world. A block of size 0 is none: nothing is asked of it. -/
structure TOK (ρ : Nat → Nat) (σ : Nat → Nat × Nat) (B : Base) (tbl : List Blk) (w : World) : Prop where
  gl : GOK (B.W ++ B.WM) B.w0
  fr : Fr (B.W ++ B.WM) B.w0 w
  lies : ∀ i b, tbl[i]? = some b → b.isDead = false → ((σ i).1 = 0 ∧ b.len = 0) ∨ ∃ pre, Pre tbl.length ρ σ b pre ∧ Lies w (ρ i) (σ i) pre
  dom : ∀ i b, tbl[i]? = some b → b.isDead = false → (σ i).1 ≠ 0 → ρ i ∈ B.A ∨ B.w0.heap.size ≤ ρ i
  domw : ∀ i b, tbl[i]? = some b → b.wr = true → (σ i).1 ≠ 0 → ρ i ∈ B.W ∨ B.w0.heap.size ≤ ρ i
  inj : ∀ i j b c, tbl[i]? = some b → tbl[j]? = some c → b.isDead = false → c.isDead = false → (b.wr || c.wr) = true → (σ i).1 ≠ 0 → (σ j).1 ≠ 0 → ρ i = ρ j → i = j
  mok : MOK ρ σ B tbl w

theorem Lies.of_fresh (w : World) (cs : Array Value) (T : TypeId) : Lies (w.alloc (.cells cs T)) w.heap.size (cs.size, 0) cs.toList :=
  ⟨cs, T, (0, 0), [], [], heap_alloc_new w _, by simp, fun o _ => by simp, by simp, rfl, by simp⟩

theorem isDead_of_wr {b : Blk} (h : b.wr = true) : b.isDead = false := by cases b <;> simp_all [Blk.wr, Blk.isDead]

def upd {α : Type} (f : Nat → α) (i : Nat) (x : α) : Nat → α := fun j => if j = i then x else f j
@[simp] theorem upd_same {α : Type} (f : Nat → α) (i : Nat) (x : α) : upd f i x i = x := by simp [upd]
theorem upd_ne {α : Type} (f : Nat → α) {i j : Nat} (x : α) (h : j ≠ i) : upd f i x j = f j := by simp [upd, h]

theorem getElem?_snoc {α : Type} {l : List α} {b c : α} {i : Nat} (hi : (l ++ [b])[i]? = some c) : (i < l.length ∧ l[i]? = some c) ∨ (i = l.length ∧ c = b) := by
  rcases Nat.lt_trichotomy i l.length with hl | hl | hl
  · rw [List.getElem?_append_left hl] at hi; exact .inl ⟨hl, hi⟩
  · subst hl; simp at hi; exact .inr ⟨rfl, hi.symm⟩
  · rw [List.getElem?_eq_none (by simp; omega)] at hi; cases hi
theorem getElem?_setS {α : Type} {l : List α} {c d : α} {i j : Nat} (hj : (l.set i c)[j]? = some d) : (j ≠ i ∧ l[j]? = some d) ∨ (j = i ∧ d = c) := by
  by_cases e : j = i
  · subst e
    have hl : j < l.length := by have := (List.getElem?_eq_some_iff.1 hj).1; simpa using this
    rw [List.getElem?_set_self hl] at hj; cases hj; exact .inr ⟨rfl, rfl⟩
  · rw [List.getElem?_set_ne (Ne.symm e)] at hj; exact .inl ⟨e, hj⟩

section
variable {ρ : Nat → Nat} {σ : Nat → Nat × Nat} {B : Base} {w w' : World} {tbl : List Blk}

/-- .. in the world as it is now, for blocks of which none is older and not to be written. -/
theorem TOK.gOK (h : TOK ρ σ B tbl w) {W' : List Nat} (hW : ∀ x ∈ W', x ∈ B.W ++ B.WM ∨ B.w0.heap.size ≤ x) : GOK W' w := fun p hp => by
  obtain ⟨h1, cs, T, fr, h2, h3⟩ := h.gl p hp
  have hlt : p.1 < B.w0.heap.size := (Array.getElem?_eq_some_iff.1 h2).1
  refine ⟨fun hx => ?_, cs, T, fr, by rw [h.fr.block p.1 hlt h1]; exact h2, h3⟩
  rcases hW _ hx with h4 | h4
  · exact h1 h4
  · omega
theorem GOK.mono {w w' : World} (h : GOK [] w) (hf : Fr [] w w') : GOK [] w' := fun p hp => by
  obtain ⟨h1, cs, T, fr, h2, h3⟩ := h p hp
  exact ⟨h1, cs, T, fr, by rw [hf.block p.1 (Array.getElem?_eq_some_iff.1 h2).1 h1]; exact h2, h3⟩
theorem TOK.gNow (h : TOK ρ σ B tbl w) : GOK [] w := h.gOK fun x hx => absurd hx (by simp)
theorem TOK.drew (h : TOK ρ σ B tbl w) (d : Nat) : TOK ρ σ B tbl { w with drawn := d } :=
  ⟨h.gl, h.fr.drew d, h.lies, h.dom, h.domw, h.inj, h.mok.turn fun _ _ _ _ => rfl⟩

theorem TOK.mlt (h : TOK ρ σ B tbl w) {i : Nat} {c : Blk} (hi : tbl[i]? = some c) (hm : c.isMap = true) : ρ i < w.heap.size := by
  obtain ⟨o, h1, _⟩ := h.mok.is i c hi hm
  exact (Array.getElem?_eq_some_iff.1 h1).1
/-- A map is no row of cells. -/
theorem TOK.map_ne (h : TOK ρ σ B tbl w) {i j : Nat} {b c : Blk} (hi : tbl[i]? = some b) (hd : b.isDead = false) (hs : (σ i).1 ≠ 0) (hj : tbl[j]? = some c) (hm : c.isMap = true) : ρ j ≠ ρ i := fun e => by
  obtain ⟨o, h1, h2⟩ := h.mok.is j c hj hm
  obtain ⟨es, clock, rfl⟩ := h2.obj
  rcases h.lies i b hi hd with ⟨h0, _⟩ | ⟨_, _, cs, T, fr, _, _, h3, _⟩
  · exact hs h0
  · rw [e, h3] at h1; cases h1

theorem TOK.lt (h : TOK ρ σ B tbl w) {i : Nat} {c : Blk} (hi : tbl[i]? = some c) (hd : c.isDead = false) (hs : (σ i).1 ≠ 0) : ρ i < w.heap.size := by
  rcases h.lies i c hi hd with ⟨h0, _⟩ | ⟨_, _, hl⟩
  · exact absurd h0 hs
  · exact hl.lt

/-- A new block, told from here on. -/
theorem TOK.alloc (h : TOK ρ σ B tbl w) {b : Blk} (cs : Array Value) (T : TypeId) (k : Nat) (hp : Pre tbl.length ρ σ b (cs.toList.take k)) :
    TOK (upd ρ tbl.length w.heap.size) (upd σ tbl.length (cs.size, 0)) B (tbl ++ [b]) (w.alloc (.cells cs T)) := by
  have hag : ∀ i, i < tbl.length → upd ρ tbl.length w.heap.size i = ρ i ∧ upd σ tbl.length (cs.size, 0) i = σ i := fun i hi => ⟨upd_ne _ _ (by omega), upd_ne _ _ (by omega)⟩
  have hbm : b.isMap = false := by
    cases b with
    | map w pl ks g => exact hp.elim
    | _ => rfl
  refine ⟨h.gl, h.fr.alloc _, fun i c hi hd => ?_, fun i c hi hw hs => ?_, fun i c hi hw hs => ?_, fun i j c d hi hj hc hd hx hsi hsj he => ?_, ?_⟩
  rotate_left 4
  · refine h.mok.via id (fun i c hi hm => ?_) (fun _ _ _ _ _ _ _ _ h => h)
    rcases getElem?_snoc hi with ⟨hl, hi⟩ | ⟨rfl, rfl⟩
    · exact ⟨c, hi, hm, (hag i hl).1, RowKit.Below.heap_alloc w _ _ (h.mlt hi hm), fun o ho => ho.mono (by simp) (fun i hi _ => hag i hi), fun h => h, fun h => h, fun _ h => h⟩
    · rw [hbm] at hm; cases hm
  · rcases getElem?_snoc hi with ⟨hl, hi⟩ | ⟨rfl, rfl⟩
    · rw [(hag i hl).1, (hag i hl).2]
      rcases h.lies i c hi hd with h0 | ⟨pre, hp', hl'⟩
      · exact .inl h0
      · exact .inr ⟨pre, hp'.mono (by simp) (fun i hi _ => hag i hi), hl'.of_block (RowKit.Below.heap_alloc w _ _ hl'.lt)⟩
    · refine .inr ⟨_, hp.mono (by simp) (fun i hi _ => hag i hi), ?_⟩
      rw [upd_same, upd_same]
      exact (Lies.of_fresh w cs T).weaken k
  · rcases getElem?_snoc hi with ⟨hl, hi⟩ | ⟨rfl, rfl⟩
    · rw [(hag i hl).2] at hs; rw [(hag i hl).1]; exact h.dom i c hi hw hs
    · right; rw [upd_same]; exact h.fr.size
  · rcases getElem?_snoc hi with ⟨hl, hi⟩ | ⟨rfl, rfl⟩
    · rw [(hag i hl).2] at hs; rw [(hag i hl).1]; exact h.domw i c hi hw hs
    · right; rw [upd_same]; exact h.fr.size
  · rcases getElem?_snoc hi with ⟨hl, hi1⟩ | ⟨e1, e2⟩ <;> rcases getElem?_snoc hj with ⟨hl', hj1⟩ | ⟨e3, e4⟩
    · rw [(hag i hl).1, (hag j hl').1] at he
      rw [(hag i hl).2] at hsi
      rw [(hag j hl').2] at hsj
      exact h.inj i j c d hi1 hj1 hc hd hx hsi hsj he
    · subst e3
      rw [(hag i hl).1, upd_same] at he
      rw [(hag i hl).2] at hsi
      have := h.lt hi1 hc hsi
      omega
    · subst e1
      rw [(hag j hl').1, upd_same] at he
      rw [(hag j hl').2] at hsj
      have := h.lt hj1 hd hsj
      omega
    · omega

/-- A block is written. -/
theorem TOK.but (h : TOK ρ σ B tbl w) {i : Nat} {b c : Blk} (hi : tbl[i]? = some b) (hw : b.wr = true) (hs : (σ i).1 ≠ 0) (hb : But (ρ i) w w') (hcw : c.isDead = false)
    (hc : ∃ pre, Pre tbl.length ρ σ c pre ∧ Lies w' (ρ i) (σ i) pre) : TOK ρ σ B (tbl.set i c) w' := by
  have hdb := isDead_of_wr hw
  refine ⟨h.gl, h.fr.but hb ((h.domw i b hi hw hs).imp_left (List.mem_append_left _)), fun j d hj hd => ?_, fun j d hj hdw hsj => ?_, fun j d hj hdw hsj => ?_, fun j j' d d' hj hj' hd hd' hx hsj hsj' he => ?_, ?_⟩
  rotate_left 4
  · refine h.mok.via id (fun j d hj hm => ?_) (fun _ _ _ _ _ _ _ _ h => h)
    rcases getElem?_setS hj with ⟨e, hj⟩ | ⟨rfl, rfl⟩
    · exact ⟨d, hj, hm, rfl, hb.block _ (h.map_ne hi hdb hs hj hm), fun o ho => by rw [List.length_set]; exact ho, fun h => h, fun h => h, fun _ h => h⟩
    · rw [not_isMap hcw] at hm; cases hm
  · rw [List.length_set]
    rcases getElem?_setS hj with ⟨e, hj⟩ | ⟨rfl, rfl⟩
    · rcases h.lies j d hj hd with h0 | ⟨pre, hp, hl⟩
      · exact .inl h0
      · by_cases hs0 : (σ j).1 = 0
        · refine .inl ⟨hs0, ?_⟩
          have := hl.pre_le
          have := hp.length
          omega
        · exact .inr ⟨pre, hp, hl.of_block (hb.block _ (fun he => e (h.inj j i d b hj hi hd hdb (by rw [hw, Bool.or_true]) hs0 hs he)))⟩
    · exact .inr hc
  · rcases getElem?_setS hj with ⟨e, hj⟩ | ⟨rfl, rfl⟩
    · exact h.dom j d hj hdw hsj
    · exact h.dom j b hi hdb hsj
  · rcases getElem?_setS hj with ⟨e, hj⟩ | ⟨rfl, rfl⟩
    · exact h.domw j d hj hdw hsj
    · exact h.domw j b hi hw hsj
  · rcases getElem?_setS hj with ⟨e, hj1⟩ | ⟨e1, e2⟩ <;> rcases getElem?_setS hj' with ⟨e', hj1'⟩ | ⟨e3, e4⟩
    · exact h.inj j j' d d' hj1 hj1' hd hd' hx hsj hsj' he
    · subst e3
      exact h.inj j j' d b hj1 hi hd hdb (by rw [hw, Bool.or_true]) hsj hsj' he
    · subst e1
      exact h.inj j j' b d' hi hj1' hdb hd' (by rw [hw, Bool.true_or]) hsj hsj' he
    · omega
/-- A new map. -/
theorem TOK.allocMap (h : TOK ρ σ B tbl w) {pl : Bool} {ks : KS} {g : Value → SV} (hk : ks.vals = []) :
    TOK (upd ρ tbl.length w.heap.size) σ B (tbl ++ [.map true pl ks g]) (w.alloc (.map #[] 0)) := by
  have hag : ∀ i, i < tbl.length → upd ρ tbl.length w.heap.size i = ρ i ∧ σ i = σ i := fun i hi => ⟨upd_ne _ _ (by omega), rfl⟩
  refine ⟨h.gl, h.fr.alloc _, fun i c hi hd => ?_, fun i c hi hw hs => ?_, fun i c hi hw hs => ?_, fun i j c d hi hj hc hd hx hsi hsj he => ?_, ?_⟩
  · rcases getElem?_snoc hi with ⟨hl, hi⟩ | ⟨rfl, rfl⟩
    · rw [(hag i hl).1]
      rcases h.lies i c hi hd with h0 | ⟨pre, hp', hl'⟩
      · exact .inl h0
      · exact .inr ⟨pre, hp'.mono (by simp) (fun i hi _ => hag i hi), hl'.of_block (RowKit.Below.heap_alloc w _ _ hl'.lt)⟩
    · cases hd
  · rcases getElem?_snoc hi with ⟨hl, hi⟩ | ⟨rfl, rfl⟩
    · rw [(hag i hl).1]; exact h.dom i c hi hw hs
    · cases hw
  · rcases getElem?_snoc hi with ⟨hl, hi⟩ | ⟨rfl, rfl⟩
    · rw [(hag i hl).1]; exact h.domw i c hi hw hs
    · cases hw
  · rcases getElem?_snoc hi with ⟨hl, hi1⟩ | ⟨e1, e2⟩ <;> rcases getElem?_snoc hj with ⟨hl', hj1⟩ | ⟨e3, e4⟩
    · rw [(hag i hl).1, (hag j hl').1] at he
      exact h.inj i j c d hi1 hj1 hc hd hx hsi hsj he
    · subst e4; cases hd
    · subst e2; cases hc
    · omega
  · refine ⟨fun i c hi hm => ?_, fun i c hi hm => ?_, fun i c hi hm => ?_, fun i j c d hi hj hc hd he => ?_⟩
    · rcases getElem?_snoc hi with ⟨hl, hi⟩ | ⟨rfl, rfl⟩
      · obtain ⟨o, h1, h2⟩ := h.mok.is i c hi hm
        refine ⟨o, ?_, h2.mono (by simp) (fun i hi _ => hag i hi)⟩
        rw [(hag i hl).1, RowKit.Below.heap_alloc w _ _ (h.mlt hi hm)]; exact h1
      · refine ⟨_, by rw [upd_same]; exact heap_alloc_new w _, #[], 0, rfl, KS.Is.nil hk, by simp, by simp, by simp, by simp, by simp [hk]⟩
    · rcases getElem?_snoc hi with ⟨hl, hi⟩ | ⟨rfl, rfl⟩
      · rw [(hag i hl).1]; exact h.mok.dom i c hi hm
      · right; rw [upd_same]; exact h.fr.size
    · rcases getElem?_snoc hi with ⟨hl, hi⟩ | ⟨rfl, rfl⟩
      · rw [(hag i hl).1]; exact h.mok.domw i c hi hm
      · right; rw [upd_same]; exact h.fr.size
    · rcases getElem?_snoc hi with ⟨hl, hi1⟩ | ⟨e1, e2⟩ <;> rcases getElem?_snoc hj with ⟨hl', hj1⟩ | ⟨e3, e4⟩
      · rw [(hag i hl).1, (hag j hl').1] at he
        exact h.mok.inj i j c d hi1 hj1 hc hd he
      · subst e3
        rw [(hag i hl).1, upd_same] at he
        have := h.mlt hi1 hc
        omega
      · subst e1
        rw [(hag j hl').1, upd_same] at he
        have := h.mlt hj1 hd
        omega
      · omega
/-- A map is written. -/
theorem TOK.butMap (h : TOK ρ σ B tbl w) {i : Nat} {b c : Blk} (hi : tbl[i]? = some b) (hw : b.mw = true) (hb : But (ρ i) w w') (hcm : c.isMap = true)
    (hc : ∃ o, w'.heap[ρ i]? = some o ∧ MapB tbl.length ρ σ c o) : TOK ρ σ B (tbl.set i c) w' := by
  have hbm := isMap_of_mw hw
  have hcd := isDead_of_isMap hcm
  refine ⟨h.gl, h.fr.but hb ((h.mok.domw i b hi hw).imp_left (List.mem_append_right _)), fun j d hj hd => ?_, fun j d hj hdw hsj => ?_, fun j d hj hdw hsj => ?_, fun j j' d d' hj hj' hd hd' hx hsj hsj' he => ?_, ?_⟩
  · rw [List.length_set]
    rcases getElem?_setS hj with ⟨e, hj⟩ | ⟨rfl, rfl⟩
    · rcases h.lies j d hj hd with h0 | ⟨pre, hp, hl⟩
      · exact .inl h0
      · by_cases hs0 : (σ j).1 = 0
        · refine .inl ⟨hs0, ?_⟩
          have := hl.pre_le
          have := hp.length
          omega
        · exact .inr ⟨pre, hp, hl.of_block (hb.block _ (h.map_ne hj hd hs0 hi hbm).symm)⟩
    · rw [hcd] at hd; cases hd
  · rcases getElem?_setS hj with ⟨e, hj⟩ | ⟨rfl, rfl⟩
    · exact h.dom j d hj hdw hsj
    · rw [hcd] at hdw; cases hdw
  · rcases getElem?_setS hj with ⟨e, hj⟩ | ⟨rfl, rfl⟩
    · exact h.domw j d hj hdw hsj
    · rw [isDead_of_wr hdw] at hcd; cases hcd
  · rcases getElem?_setS hj with ⟨e, hj1⟩ | ⟨e1, e2⟩ <;> rcases getElem?_setS hj' with ⟨e', hj1'⟩ | ⟨e3, e4⟩
    · exact h.inj j j' d d' hj1 hj1' hd hd' hx hsj hsj' he
    · subst e4; rw [hcd] at hd'; cases hd'
    · subst e2; rw [hcd] at hd; cases hd
    · omega
  · refine ⟨fun j d hj hm => ?_, fun j d hj hm => ?_, fun j d hj hm => ?_, fun j j' d d' hj hj' hd hd' he => ?_⟩
    · rw [List.length_set]
      rcases getElem?_setS hj with ⟨e, hj⟩ | ⟨rfl, rfl⟩
      · obtain ⟨o, h1, h2⟩ := h.mok.is j d hj hm
        refine ⟨o, ?_, h2⟩
        rw [hb.block _ (fun he => e (h.mok.inj j i d b hj hi hm hbm he))]; exact h1
      · exact hc
    · rcases getElem?_setS hj with ⟨e, hj⟩ | ⟨rfl, rfl⟩
      · exact h.mok.dom j d hj hm
      · exact h.mok.dom j b hi hbm
    · rcases getElem?_setS hj with ⟨e, hj⟩ | ⟨rfl, rfl⟩
      · exact h.mok.domw j d hj hm
      · exact h.mok.domw j b hi hw
    · rcases getElem?_setS hj with ⟨e, hj1⟩ | ⟨e1, e2⟩ <;> rcases getElem?_setS hj' with ⟨e', hj1'⟩ | ⟨e3, e4⟩
      · exact h.mok.inj j j' d d' hj1 hj1' hd hd' he
      · subst e3; exact h.mok.inj j j' d b hj1 hi hd hbm he
      · subst e1; exact h.mok.inj j j' b d' hi hj1' hbm hd' he
      · omega
end

end Go.Proofs.YtmnenigmkfnciaaGreatDoor.Sx
