/- TopBlocks: deeds among the arguments, the laid tables, as the walk takes them. No condition. -/
import Derived.Deep.Slices
import Derived.ChangeSlices
import Derived.WideShapes
import Derived.OpenShut
import Derived.LaidMore
import Derived.FnData
import Derived.Test.YtmnenigmkfnciaaGreatDoorSx13
import Derived.Test.YtmnenigmkfnciaaGreatDoorProg
import Derived.Test.YtmnenigmkfnciaaGreatDoorBase
import Derived.Test.YtmnenigmkfnciaaGreatDoorMB
import Derived.Test.YtmnenigmkfnciaaGreatDoorMH
namespace Go.Proofs.YtmnenigmkfnciaaGreatDoor.Sx
open Go Go.Proofs
set_option maxRecDepth 100000
set_option linter.unusedSimpArgs false
set_option linter.unusedVariables false

theorem slice_spot {P : Program} {w : World} {base : Nat} {t e : TypeId} {a : Addr} {len cap : Nat} (ht : P.underlying t = some (.slice e)) (h : Value.okWide P w .any base t (.slice (some a) len cap)) : a.spot = none := by
  simp only [Value.okWide, ht, Cell.okWide, Cell.ok, World.has] at h
  exact h.2.2.2.1
/-- Cells that are known, the first rows as these columns tell, and none frozen: a view. -/
theorem lies_rows {w : World} {b off : Nat} {cols : List Col} {n cp : Nat} (hn : n ≤ cp) (hcp : 0 < cp) (hc : 0 < cols.length)
    (h : ∀ r c, r < cp → c < cols.length → ∃ v, w.cell? ⟨b, off + (r * cols.length + c), none⟩ = some v ∧ (r < n → (cols[c]?).map (Col.at r) = some v))
    (hf : ∀ j, j < cp * cols.length → w.frozen? ⟨b, off + j, none⟩ = false) : Lies w b (cp * cols.length, off) (rowsL cols n) := by
  obtain ⟨v0, h0, _⟩ := h 0 0 hcp hc
  unfold World.cell? at h0
  split at h0
  · rename_i cs T fr hb
    have ej : ∀ j, j / cols.length * cols.length + j % cols.length = j := fun j => by
      have := Nat.div_add_mod j cols.length; rw [Nat.mul_comm] at this; exact this
    have hcell : ∀ j, j < cp * cols.length → ∃ v, cs[off + j]? = some v ∧ (j / cols.length < n → (cols[j % cols.length]?).map (Col.at (j / cols.length)) = some v) := fun j hj => by
      obtain ⟨v, hv, hx⟩ := h (j / cols.length) (j % cols.length) ((Nat.div_lt_iff_lt_mul hc).2 hj) (Nat.mod_lt _ hc)
      rw [ej] at hv
      unfold World.cell? at hv
      simp only [hb] at hv
      exact ⟨v, by simpa using hv, hx⟩
    have hpos : 0 < cp * cols.length := Nat.mul_pos hcp hc
    have hsz : off + cp * cols.length ≤ cs.size := by
      obtain ⟨v, hv, _⟩ := hcell (cp * cols.length - 1) (by omega)
      have := (Array.getElem?_eq_some_iff.1 hv).1
      omega
    have hnl : n * cols.length ≤ cp * cols.length := Nat.mul_le_mul_right _ hn
    refine ⟨cs, T, fr, cs.toList.take off, cs.toList.drop (off + n * cols.length), hb, hsz, fun o ho => ?_, ?_, by simp; omega, by rw [rowsL_len]; exact hnl⟩
    · have := hf o ho
      simp only [World.frozen?, hb] at this
      exact this
    · have e1 : rowsL cols n = (cs.toList.drop off).take (n * cols.length) := by
        apply List.ext_getElem?
        intro j
        rw [List.getElem?_take]
        by_cases hj : j < n * cols.length
        · obtain ⟨v, hv, hx⟩ := hcell j (by omega)
          have hr : j / cols.length < n := (Nat.div_lt_iff_lt_mul hc).2 hj
          have := rowsL_get cols n (j / cols.length) (j % cols.length) hr (Nat.mod_lt _ hc)
          rw [ej, hx hr] at this
          rw [this, if_pos hj, List.getElem?_drop, show cs.toList[off + j]? = cs[off + j]? from Array.getElem?_toList, hv]
        · rw [if_neg hj, List.getElem?_eq_none (by rw [rowsL_len]; omega)]
      rw [e1]
      have e2 : cs.toList.drop (off + n * cols.length) = (cs.toList.drop off).drop (n * cols.length) := by rw [List.drop_drop]
      rw [e2, List.take_append_drop, List.take_append_drop]
  · cases h0
/-- What a cell holds, as a number, as a text. -/
def cellI (w : World) (b o : Nat) : Int := match w.cell? ⟨b, o, none⟩ with
  | some (.int _ x) => x
  | _ => 0
def cellS (w : World) (b o : Nat) : ByteArray := match w.cell? ⟨b, o, none⟩ with
  | some (.string s) => s
  | _ => ByteArray.empty
theorem cellI_of {w : World} {b o : Nat} {k : IntKind} {x : Int} (h : w.cell? ⟨b, o, none⟩ = some (.int k x)) : cellI w b o = x := by rw [cellI, h]
theorem cellS_of {w : World} {b o : Nat} {x : ByteArray} (h : w.cell? ⟨b, o, none⟩ = some (.string x)) : cellS w b o = x := by rw [cellS, h]
/-- One request's cells. -/
theorem req_leaf {H : Type} {enc : TypeId × Value → H} {P : Program} {w : World} {base : Nat} {held : Bool} {e u : TypeId} {fuel : Nat} {cs : List Value} {x : DataW H × List MemPlace} {f0 f1 f2 g0 g1 g2 g3 : Field}
    (he : P.underlying e = some (.struct #[f0, f1, f2])) (hu : P.underlying u = some (.struct #[g0, g1, g2, g3])) (hce : P.cellsOf e = 6) (hcu : P.cellsOf u = 4)
    (hf0 : f0.offset = 0 ∧ P.cellsOf f0.type = 1 ∧ P.underlying f0.type = some (.int .i64)) (hf1 : f1.offset = 1 ∧ P.cellsOf f1.type = 1 ∧ P.underlying f1.type = some (.int .i64)) (hf2 : f2.offset = 2 ∧ f2.type = u)
    (hg0 : g0.offset = 0 ∧ P.cellsOf g0.type = 1 ∧ P.underlying g0.type = some (.int .i64)) (hg1 : g1.offset = 1 ∧ P.cellsOf g1.type = 1 ∧ P.underlying g1.type = some (.int .i64)) (hg2 : g2.offset = 2 ∧ P.cellsOf g2.type = 1 ∧ P.underlying g2.type = some .string) (hg3 : g3.offset = 3 ∧ P.cellsOf g3.type = 1 ∧ P.underlying g3.type = some .string)
    (h : DataW.trod enc P w base (fun _ => true) held fuel e cs = some x) :
    ∃ (c s k n : Int) (nm b : ByteArray), cs = [.int .i64 c, .int .i64 s, .int .i64 k, .int .i64 n, .string nm, .string b] := by
  obtain ⟨xs, m, _, hx, hl, hxl, hf⟩ := DataW.trod_struct he h
  rw [hce] at hl
  obtain ⟨c0, c1, c2, c3, c4, c5, rfl⟩ : ∃ c0 c1 c2 c3 c4 c5, cs = [c0, c1, c2, c3, c4, c5] := by
    match cs, hl with
    | [c0, c1, c2, c3, c4, c5], _ => exact ⟨_, _, _, _, _, _, rfl⟩
  obtain ⟨y0, y1, y2, rfl⟩ : ∃ y0 y1 y2, xs = [y0, y1, y2] := by
    match xs, hxl with
    | [y0, y1, y2], _ => exact ⟨_, _, _, rfl⟩
  have h0 := hf 0 f0 rfl
  have h1 := hf 1 f1 rfl
  have h2 := hf 2 f2 rfl
  rw [hf0.1, hf0.2.1] at h0
  rw [hf1.1, hf1.2.1] at h1
  rw [hf2.1, hf2.2, hcu] at h2
  obtain ⟨z0, e0, _, _⟩ := DataW.trod_int hf0.2.2 h0
  obtain ⟨z1, e1, _, _⟩ := DataW.trod_int hf1.2.2 h1
  obtain ⟨ys, m', _, hy, hl', hyl, hg⟩ := DataW.trod_struct hu h2
  obtain ⟨w0, w1, w2, w3, rfl⟩ : ∃ w0 w1 w2 w3, ys = [w0, w1, w2, w3] := by
    match ys, hyl with
    | [w0, w1, w2, w3], _ => exact ⟨_, _, _, _, rfl⟩
  have k0 := hg 0 g0 rfl
  have k1 := hg 1 g1 rfl
  have k2 := hg 2 g2 rfl
  have k3 := hg 3 g3 rfl
  rw [hg0.1, hg0.2.1] at k0
  rw [hg1.1, hg1.2.1] at k1
  rw [hg2.1, hg2.2.1] at k2
  rw [hg3.1, hg3.2.1] at k3
  obtain ⟨a0, i0, _, _⟩ := DataW.trod_int hg0.2.2 k0
  obtain ⟨a1, i1, _, _⟩ := DataW.trod_int hg1.2.2 k1
  obtain ⟨a2, i2, j2, _⟩ := DataW.trod_string hg2.2.2 k2
  obtain ⟨a3, i3, j3, _⟩ := DataW.trod_string hg3.2.2 k3
  simp only [List.drop_zero, List.take_succ_cons, List.take_zero, List.drop_succ_cons, List.cons.injEq, and_true] at e0 e1 i0 i1 i2 i3
  subst e0 e1 i0 i1 i2 i3
  exact ⟨_, _, _, _, _, _, rfl⟩
/-- One deed's cells. -/
theorem deed_leaf {H : Type} {enc : TypeId × Value → H} {P : Program} {w : World} {base : Nat} {held : Bool} {q e u : TypeId} {fuel : Nat} {cs : List Value} {x : DataW H × List MemPlace} {d0 d1 d2 f0 f1 f2 g0 g1 g2 g3 : Field}
    (hq : P.underlying q = some (.struct #[d0, d1, d2])) (he : P.underlying e = some (.struct #[f0, f1, f2])) (hu : P.underlying u = some (.struct #[g0, g1, g2, g3])) (hcq : P.cellsOf q = 8) (hce : P.cellsOf e = 6) (hcu : P.cellsOf u = 4)
    (hd0 : d0.offset = 0 ∧ P.cellsOf d0.type = 1 ∧ P.underlying d0.type = some (.int .i64)) (hd1 : d1.offset = 1 ∧ P.cellsOf d1.type = 1 ∧ P.underlying d1.type = some (.int .i64)) (hd2 : d2.offset = 2 ∧ d2.type = e)
    (hf0 : f0.offset = 0 ∧ P.cellsOf f0.type = 1 ∧ P.underlying f0.type = some (.int .i64)) (hf1 : f1.offset = 1 ∧ P.cellsOf f1.type = 1 ∧ P.underlying f1.type = some (.int .i64)) (hf2 : f2.offset = 2 ∧ f2.type = u)
    (hg0 : g0.offset = 0 ∧ P.cellsOf g0.type = 1 ∧ P.underlying g0.type = some (.int .i64)) (hg1 : g1.offset = 1 ∧ P.cellsOf g1.type = 1 ∧ P.underlying g1.type = some (.int .i64)) (hg2 : g2.offset = 2 ∧ P.cellsOf g2.type = 1 ∧ P.underlying g2.type = some .string) (hg3 : g3.offset = 3 ∧ P.cellsOf g3.type = 1 ∧ P.underlying g3.type = some .string)
    (h : DataW.trod enc P w base (fun _ => true) held fuel q cs = some x) :
    ∃ (z0 z1 c s k n : Int) (nm b : ByteArray), cs = [.int .i64 z0, .int .i64 z1, .int .i64 c, .int .i64 s, .int .i64 k, .int .i64 n, .string nm, .string b] := by
  obtain ⟨xs, m, _, hx, hl, hxl, hf⟩ := DataW.trod_struct hq h
  rw [hcq] at hl
  obtain ⟨c0, c1, c2, c3, c4, c5, c6, c7, rfl⟩ : ∃ c0 c1 c2 c3 c4 c5 c6 c7, cs = [c0, c1, c2, c3, c4, c5, c6, c7] := by
    match cs, hl with
    | [c0, c1, c2, c3, c4, c5, c6, c7], _ => exact ⟨_, _, _, _, _, _, _, _, rfl⟩
  obtain ⟨y0, y1, y2, rfl⟩ : ∃ y0 y1 y2, xs = [y0, y1, y2] := by
    match xs, hxl with
    | [y0, y1, y2], _ => exact ⟨_, _, _, rfl⟩
  have h0 := hf 0 d0 rfl
  have h1 := hf 1 d1 rfl
  have h2 := hf 2 d2 rfl
  rw [hd0.1, hd0.2.1] at h0
  rw [hd1.1, hd1.2.1] at h1
  rw [hd2.1, hd2.2, hce] at h2
  obtain ⟨z0, e0, _, _⟩ := DataW.trod_int hd0.2.2 h0
  obtain ⟨z1, e1, _, _⟩ := DataW.trod_int hd1.2.2 h1
  obtain ⟨c, s, k, n, nm, b, e2⟩ := req_leaf he hu hce hcu hf0 hf1 hf2 hg0 hg1 hg2 hg3 h2
  simp only [List.drop_zero, List.take_succ_cons, List.take_zero, List.drop_succ_cons, List.cons.injEq, and_true] at e0 e1 e2
  obtain ⟨rfl, rfl, rfl, rfl, rfl, rfl⟩ := e2
  subst e0 e1
  exact ⟨_, _, _, _, _, _, _, _, rfl⟩
def deedsOf (w : World) (b off n : Nat) : DT := ⟨n, fun r => cellI w b (off + (r * 8 + 0)), fun r => cellI w b (off + (r * 8 + 1)), ⟨n, fun r => cellI w b (off + (r * 8 + 2)), fun r => cellI w b (off + (r * 8 + 3)), fun r => cellI w b (off + (r * 8 + 4)), fun r => cellI w b (off + (r * 8 + 5)), fun r => cellS w b (off + (r * 8 + 6)), fun r => cellS w b (off + (r * 8 + 7))⟩⟩
/-- A slice of deeds. -/
theorem open_deeds {H : Type} {enc : TypeId × Value → H} {P : Program} {w : World} {base : Nat} {held : Bool} {t q e u : TypeId} {fuel : Nat} {v : Value} {d : DataW H} {p : List MemPlace} {d0 d1 d2 f0 f1 f2 g0 g1 g2 g3 : Field}
    (ht : P.underlying t = some (.slice q))
    (hq : P.underlying q = some (.struct #[d0, d1, d2])) (he : P.underlying e = some (.struct #[f0, f1, f2])) (hu : P.underlying u = some (.struct #[g0, g1, g2, g3])) (hcq : P.cellsOf q = 8) (hce : P.cellsOf e = 6) (hcu : P.cellsOf u = 4)
    (hd0 : d0.offset = 0 ∧ P.cellsOf d0.type = 1 ∧ P.underlying d0.type = some (.int .i64)) (hd1 : d1.offset = 1 ∧ P.cellsOf d1.type = 1 ∧ P.underlying d1.type = some (.int .i64)) (hd2 : d2.offset = 2 ∧ d2.type = e)
    (hf0 : f0.offset = 0 ∧ P.cellsOf f0.type = 1 ∧ P.underlying f0.type = some (.int .i64)) (hf1 : f1.offset = 1 ∧ P.cellsOf f1.type = 1 ∧ P.underlying f1.type = some (.int .i64)) (hf2 : f2.offset = 2 ∧ f2.type = u)
    (hg0 : g0.offset = 0 ∧ P.cellsOf g0.type = 1 ∧ P.underlying g0.type = some (.int .i64)) (hg1 : g1.offset = 1 ∧ P.cellsOf g1.type = 1 ∧ P.underlying g1.type = some (.int .i64)) (hg2 : g2.offset = 2 ∧ P.cellsOf g2.type = 1 ∧ P.underlying g2.type = some .string) (hg3 : g3.offset = 3 ∧ P.cellsOf g3.type = 1 ∧ P.underlying g3.type = some .string)
    (hv : Value.okWide P w .any base t v) (hfz : w.noneFrozen p)
    (h : DataW.trod enc P w 0 (fun _ => true) held fuel t [v] = some (d, p)) :
    ∃ (D : DT) (cp b off : Nat), D.n ≤ cp ∧ ((v = .slice none 0 0 ∧ D.n = 0 ∧ cp = 0) ∨ v = .slice (some ⟨b, off, none⟩) D.n cp) ∧ ((cp = 0 ∧ D.n = 0) ∨ Lies w b (cp * 8, off) (rowsL D.cols D.n)) := by
  rcases Deep.open_slice ht h with ⟨h0, _⟩ | ⟨a, len, cap, m, n', Df, Pl, hvv, _, hlc, _, hm, hx, hel⟩
  · cases h0
    exact ⟨deedsOf w 0 0 0, 0, 0, 0, Nat.le_refl _, .inl ⟨rfl, rfl, rfl⟩, .inl ⟨rfl, rfl⟩⟩
  · cases hvv
    simp only [if_true] at hm
    have hm := hm.symm
    subst hm
    have hs := slice_spot ht hv
    obtain ⟨b, off, sp⟩ := a
    simp only at hs
    subst hs
    by_cases hm0 : cap = 0
    · subst hm0
      have : len = 0 := by omega
      subst this
      exact ⟨deedsOf w b off 0, 0, b, off, Nat.le_refl _, .inr rfl, .inl ⟨rfl, rfl⟩⟩
    · have leaf : ∀ r, r < cap → ∃ (z0 z1 c s k n : Int) (nm y : ByteArray), w.cell? ⟨b, off + (r * 8 + 0), none⟩ = some (.int .i64 z0) ∧ w.cell? ⟨b, off + (r * 8 + 1), none⟩ = some (.int .i64 z1) ∧ w.cell? ⟨b, off + (r * 8 + 2), none⟩ = some (.int .i64 c) ∧ w.cell? ⟨b, off + (r * 8 + 3), none⟩ = some (.int .i64 s) ∧ w.cell? ⟨b, off + (r * 8 + 4), none⟩ = some (.int .i64 k) ∧
          w.cell? ⟨b, off + (r * 8 + 5), none⟩ = some (.int .i64 n) ∧ w.cell? ⟨b, off + (r * 8 + 6), none⟩ = some (.string nm) ∧ w.cell? ⟨b, off + (r * 8 + 7), none⟩ = some (.string y) := fun r hr => by
        obtain ⟨cs', h1, h2⟩ := hel r hr
        obtain ⟨z0, z1, c, s, k, n, nm, y, rfl⟩ := deed_leaf hq he hu hcq hce hcu hd0 hd1 hd2 hf0 hf1 hf2 hg0 hg1 hg2 hg3 h2
        rw [hcq] at h1
        obtain ⟨_, hlen, hcell⟩ := World.cells?_some h1
        have cell : ∀ j, j < 8 → w.cell? ⟨b, off + (r * 8 + j), none⟩ = [Value.int .i64 z0, .int .i64 z1, .int .i64 c, .int .i64 s, .int .i64 k, .int .i64 n, .string nm, .string y][j]? := fun j hj => by
          have := hcell j hj
          rw [addr_add, addr_add, Nat.add_assoc] at this
          exact this
        exact ⟨z0, z1, c, s, k, n, nm, y, cell 0 (by omega), cell 1 (by omega), cell 2 (by omega), cell 3 (by omega), cell 4 (by omega), cell 5 (by omega), cell 6 (by omega), cell 7 (by omega)⟩
      refine ⟨deedsOf w b off len, cap, b, off, hlc, .inr rfl, .inr ?_⟩
      refine lies_rows (cols := (deedsOf w b off len).cols) hlc (by omega) (show 0 < 8 by decide) (fun r c hr hc => ?_) (fun j hj => ?_)
      · obtain ⟨z0, z1, c', s, k, n, nm, y, h0, h1, h2, h3, h4, h5, h6, h7⟩ := leaf r hr
        have hc : c < 8 := hc
        match c, hc with
        | 0, _ => exact ⟨_, h0, fun _ => congrArg some (congrArg (Value.int .i64) (cellI_of h0))⟩
        | 1, _ => exact ⟨_, h1, fun _ => congrArg some (congrArg (Value.int .i64) (cellI_of h1))⟩
        | 2, _ => exact ⟨_, h2, fun _ => congrArg some (congrArg (Value.int .i64) (cellI_of h2))⟩
        | 3, _ => exact ⟨_, h3, fun _ => congrArg some (congrArg (Value.int .i64) (cellI_of h3))⟩
        | 4, _ => exact ⟨_, h4, fun _ => congrArg some (congrArg (Value.int .i64) (cellI_of h4))⟩
        | 5, _ => exact ⟨_, h5, fun _ => congrArg some (congrArg (Value.int .i64) (cellI_of h5))⟩
        | 6, _ => exact ⟨_, h6, fun _ => congrArg some (congrArg Value.string (cellS_of h6))⟩
        | 7, _ => exact ⟨_, h7, fun _ => congrArg some (congrArg Value.string (cellS_of h7))⟩
        | q + 8, h => exact absurd h (by omega)
      · refine hfz b (off + j) ?_
        have hpe := congrArg Prod.snd hx
        simp only at hpe
        rw [hpe, hcq]
        refine List.mem_append_left _ (List.mem_map.2 ⟨j, List.mem_range.2 (by simpa [DT.cols, RT.cols] using hj), rfl⟩)
theorem calls_of1 {f : FuncId} {g : List SV → List Blk → (SV → Prop) → Prop} (h : SpecOK Tryz.prog f (.q g)) {args : List SV} {us : Array Value} {w : World} {b0 : Nat} {x : Nat × Nat} {n : Nat} {cols : List Col} (hr : RelL 1 (fun _ => b0) (fun _ => x) args us.toList)
    (hL0 : (x.1 = 0 ∧ n = 0) ∨ Lies w b0 x (rowsL cols n)) (hg : ∀ K : SV → Prop, K (.v (.bool true)) → g args [.tab false n cols] K) (hG : GOK [] w) :
    Calls Tryz.prog f us w fun e w' => e = .returned (.bool true) ∧ RowKit.Below w.heap.size w w' := by
  obtain ⟨s, hs, hK, hF⟩ := h.2 args [.tab false n cols] (fun s => s = .v (.bool true)) (hg _ rfl)
  have get : ∀ (i : Nat) (c : Blk), [Blk.tab false n cols][i]? = some c → i = 0 ∧ c = .tab false n cols := fun i c hi => by
    match i, hi with
    | 0, hi => simp at hi; exact ⟨rfl, hi.symm⟩
    | i + 1, hi => simp at hi
  have hT : TOK (fun _ => b0) (fun _ => x) { A := [b0], W := [], w0 := w } [.tab false n cols] w := by
    refine ⟨hG, Fr.refl _ _, fun i c hi hd => ?_, fun i c hi hd hz => .inl ?_, fun i c hi hw hz => ?_, fun i j c d hi hj hc hd hx hsi hsj he => ?_, ⟨fun i c hi hm => ?_, fun i c hi hm => ?_, fun i c hi hm => ?_, fun i j c d hi hj hc hd he => ?_⟩⟩
    · obtain ⟨rfl, rfl⟩ := get i c hi
      rcases hL0 with ⟨h1, rfl⟩ | hL
      · exact .inl ⟨h1, by simp [Blk.len]⟩
      · exact .inr ⟨_, rfl, hL⟩
    · simp
    · obtain ⟨rfl, rfl⟩ := get i c hi
      cases hw
    · obtain ⟨rfl, rfl⟩ := get i c hi
      obtain ⟨rfl, rfl⟩ := get j d hj
      rfl
    · obtain ⟨rfl, rfl⟩ := get i c hi
      cases hm
    · obtain ⟨rfl, rfl⟩ := get i c hi
      cases hm
    · obtain ⟨rfl, rfl⟩ := get i c hi
      cases hm
    · obtain ⟨rfl, rfl⟩ := get i c hi
      cases hc
  refine (hF _ _ _ us w hr hT).mono ?_
  rintro e w' ⟨s', v, tbl', mv, ρ', σ', h1, h2, h3, h4, h5, h6, h7, h8⟩
  subst h6 hK
  exact ⟨by rw [h1]; exact congrArg _ h2, h5.fr.below⟩
/-- An array of numbers that reads as known. -/
theorem ints_of {H : Type} {enc : TypeId × Value → H} {P : Program} {w : World} {base : Nat} {sp : TypeId → Bool} {held : Bool} {n : Nat} {e t : TypeId} {k : IntKind} {fuel : Nat} {cs : List Value} {d : DataW H} {ps : List MemPlace} (ht : P.underlying t = some (.array n e)) (he : P.underlying e = some (.int k)) (hc : P.cellsOf e = 1) (hct : P.cellsOf t = n)
    (l : List Int) (hl : l.length = n) (h : DataW.trod enc P w base sp held fuel t cs = some (d, ps)) (hd : d = .agg (l.map fun z => .lit (.int k z))) : cs = l.map (Value.int k) := by
  obtain ⟨xs, m, _, hx, hlen, hn, hel⟩ := DataW.trod_array ht h
  simp only [Prod.mk.injEq] at hx
  have hx1 := hx.1
  subst hd
  simp only [DataW.agg.injEq] at hx1
  apply List.ext_getElem?
  intro i
  by_cases hi : i < n
  · have h1 := hel i hi
    rw [hc, Nat.mul_one] at h1
    have hxi : xs[i]? = some xs[i] := List.getElem?_eq_getElem (by omega)
    rw [hxi] at h1
    obtain ⟨z, e1, e2, _⟩ := DataW.trod_int he h1
    have h2 : (l.map fun z => (DataW.lit (Lit.int k z) : DataW H))[i]? = (xs.map (·.1))[i]? := by rw [hx1]
    rw [List.getElem?_map, List.getElem?_map, hxi, e2, List.getElem?_eq_getElem (by omega)] at h2
    simp only [Option.map_some, Option.some.injEq, DataW.lit.injEq, Lit.int.injEq, true_and] at h2
    have h3 : cs[i]? = some (.int k z) := by
      have := congrArg (fun q : List Value => q[0]?) e1
      simpa [List.getElem?_take, List.getElem?_drop] using this
    rw [h3, List.getElem?_map, List.getElem?_eq_getElem (by omega)]
    simp only [Option.map_some, h2]
  · rw [List.getElem?_eq_none (by omega), List.getElem?_eq_none (by simp; omega)]

end Go.Proofs.YtmnenigmkfnciaaGreatDoor.Sx
