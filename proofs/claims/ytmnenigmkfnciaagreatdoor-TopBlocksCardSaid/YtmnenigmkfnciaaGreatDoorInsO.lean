/- slices.Insert of one Request, no room: a new row. No condition. -/
import Derived.Test.YtmnenigmkfnciaaGreatDoorProg
import Derived.Shelf.Spec.SlicesInsertGrow
set_option linter.unusedVariables false
set_option linter.unusedSimpArgs false
namespace Go.Proofs.YtmnenigmkfnciaaGreatDoor.Ins
open Go.Proofs
open Go.Shelf Go.RowKit Go.Lib
variable {P : Program}
theorem run_copy_cellsN (s : Nat) (w : World) (dT sT ty elem : TypeId) (b o dLen dCap : Nat) (a : Addr) (sLen sCap : Nat) (cs : List Value)
    (hu : P.underlying dT = some (.slice elem)) (hs : (P.info? elem).map (·.size) = some s) (hn : cs.length = Nat.min sLen dLen * s)
    (hsrc : ∀ j v, cs[j]? = some v → w.cell? (a.add j) = some v) (hc : ∀ j, j < cs.length → (w.cell? ⟨b, o + j, none⟩).isSome = true) (hf : ∀ j, j < cs.length → w.frozen? ⟨b, o + j, none⟩ = false) (h1 : ∀ v ∈ cs, v.oneCell' = true) :
    (Builtin.copy_ #[dT, sT] ty #[.slice (some ⟨b, o, none⟩) dLen dCap, .slice (some a) sLen sCap]).run P w = .ok (goInt (Nat.min sLen dLen : Nat)) (w.setCells b o cs) := by
  have hl := run_loadCells_list (P := P) w a cs hsrc
  have hst := run_storeCells_cells (P := P) b o cs 0 w (by simpa using hc) (by simpa using hf) h1
  cases hq : P.info? elem with
  | none => simp [hq] at hs
  | some i =>
    have hi : i.size = s := by simpa [hq] using hs
    simp [Builtin.copy_, run_underlying hu, Builtin.lenOf, Builtin.firstCells, sizeOf, typeInfo, hq, hi, ← hn, hl, hst]

/-- The cells of an array from a place on, set one by one. -/
def setsA : Array Value → Nat → List Value → Array Value
  | c, _, [] => c
  | c, o, v :: r => setsA (c.setIfInBounds o v) (o + 1) r
theorem setCell_alloc (w : World) (c : Array Value) (T : TypeId) (j : Nat) (v : Value) : (w.alloc (.cells c T)).setCell ⟨w.heap.size, j, none⟩ v = w.alloc (.cells (c.setIfInBounds j v) T) := by
  simp only [World.setCell, World.alloc]
  congr 1
  apply Array.ext
  · simp
  · intro k h1 h2
    simp [Array.getElem_modify, Array.getElem_push] 
    have h1' : k < w.heap.size + 1 := by simpa using h1
    split <;> split <;> first | rfl | omega | (exfalso; omega) | simp_all
theorem setCells_alloc (w : World) (T : TypeId) : ∀ (vs : List Value) (c : Array Value) (o : Nat), (w.alloc (.cells c T)).setCells w.heap.size o vs = w.alloc (.cells (setsA c o vs) T)
  | [], _, _ => rfl
  | v :: r, c, o => by rw [World.setCells, setCell_alloc, setCells_alloc w T r, setsA]
theorem setsA_list : ∀ (vs : List Value) (c : Array Value) (o : Nat), o + vs.length ≤ c.size → (setsA c o vs).toList = c.toList.take o ++ vs ++ c.toList.drop (o + vs.length)
  | [], c, o, _ => by simp [setsA]
  | v :: r, c, o, h => by
    simp only [List.length_cons] at h
    rw [setsA, setsA_list r _ _ (by simp; omega), Array.toList_setIfInBounds]
    have hl : o < c.toList.length := by simp; omega
    have e1 : (c.toList.set o v).take (o + 1) = c.toList.take o ++ [v] := by
      have hm : min o c.size = o := Nat.min_eq_left (by simpa using Nat.le_of_lt hl)
      rw [List.take_set, List.take_succ_eq_append_getElem hl, List.set_append_right _ _ (by simp [hm])]
      simp [hm]
    have e2 : (c.toList.set o v).drop (o + 1 + r.length) = c.toList.drop (o + (r.length + 1)) := by
      rw [List.drop_set_of_lt (by omega)]
      congr 1; omega
    rw [e1, e2]
    simp
set_option maxHeartbeats 4000000 in
set_option maxRecDepth 100000 in
theorem ins_grow (b off n i vb voff vc : Nat) (cs vs : List Value) (w : World) (hi : i < n) (hn : n ≤ 1000)
    (hcl : cs.length = n * 6) (hvl : vs.length = 6)
    (hcs : ∀ j v, cs[j]? = some v → w.cell? ⟨b, off + j, none⟩ = some v)
    (hvs : ∀ j v, vs[j]? = some v → w.cell? ⟨vb, voff + j, none⟩ = some v) (h1c : ∀ v ∈ cs, v.oneCell' = true) (h1v : ∀ v ∈ vs, v.oneCell' = true) :
    Calls Tryz.prog 29 #[.slice (some ⟨b, off, none⟩) n n, .int .i64 i, .slice (some ⟨vb, voff, none⟩) 1 vc] w fun e w' => ∃ G ROW d,
      e = .returned (.slice (some ⟨w.heap.size, 0, none⟩) (n + 1) G) ∧ n + 1 ≤ G ∧ G ≤ 9223372036854775807 ∧ ROW.size = G * 6 ∧ ROW.toList.take ((n + 1) * 6) = cs.take (i * 6) ++ vs ++ cs.drop (i * 6) ∧
      w' = { w.alloc (.cells ROW 32) with drawn := d } := by
  have u22 := Tryz.underlying27
  have r22 := Tryz.runUnderlying27
  have s35 := Tryz.sizeOf32
  obtain ⟨i0, zv, hi0, hz0, hzc, hzs, hzb⟩ : ∃ i0 zv, Tryz.prog.info? 32 = some i0 ∧ i0.zero = some zv ∧ zv.cells.size = 6 ∧ i0.size = 6 ∧ i0.bytes = 64 := ⟨_, _, rfl, rfl, rfl, rfl, rfl⟩
  have mixed : Tryz.prog.follows .mixedOrders = true := rfl
  have hz2 : ¬ ((i : Int) = (n : Int)) := by omega
  have hz3 : (n : Int) < (n : Int) + 1 := by omega
  have hsz : (Tryz.prog.info? 32).map (·.size) = some 6 := by rw [hi0]; simp [hzs]
  have hbw : b < w.heap.size := block_lt_of_cell (hcs 0 _ (List.getElem?_eq_getElem (by omega)))
  have hvw : vb < w.heap.size := block_lt_of_cell (hvs 0 _ (List.getElem?_eq_getElem (by omega)))
  have hkk : (n : Int) + 1 - (i : Int) = ((n + 1 - i : Nat) : Int) := by omega
  have hik : i + (n + 1 - i) = n + 1 := by omega
  have hold : (Builtin.firstCells i0.size i (.slice (some ⟨b, off, none⟩) i n)).run Tryz.prog w.drew = .ok (cs.take (i * 6)).toArray w.drew := by
    rw [hzs]
    exact run_firstCells_some w.drew 6 i ⟨b, off, none⟩ i n (cs.take (i * 6)) (by rw [List.length_take]; omega) (fun j v hj => by
      rw [Addr.add_lit]
      rw [List.getElem?_take] at hj
      split at hj
      · exact hcs j v hj
      · cases hj)
  have hrz : ∀ ty, (Builtin.append_ #[27, 3] ty #[.slice (some ⟨b, off, none⟩) i n, .int .i64 ((n : Int) + 1 - (i : Int))]).run Tryz.prog w =
      .ok (.slice (some ⟨w.heap.size, 0, none⟩) (n + 1) (grownCap w (n + 1) n 32)) (w.drew.alloc (.cells ((cs.take (i * 6)).toArray ++ Builtin.zeroCells zv.cells (n + 1 - i) ++ Builtin.zeroCells zv.cells (grownCap w (n + 1) n 32 - (n + 1))) 32)) := fun ty => by
    have h := Lib.run_append_grow_zeros w 27 3 ty 32 i0 _ .i64 .i64 Tryz.underlying27 Tryz.underlying3 hi0 hz0 (some ⟨b, off, none⟩) i n (cs.take (i * 6)) hold (n + 1 - i) (by omega) (by omega) (by omega) (by omega) (by rw [hzb]; omega) (by rw [hzb, hik]; exact growslice_fits (by omega) (by omega))
    rw [hik] at h
    rw [hkk]
    exact h
  obtain ⟨G, hG⟩ : ∃ G, G = grownCap w (n + 1) n 32 := ⟨_, rfl⟩
  have hZsz : ∀ k, (Builtin.zeroCells zv.cells k).size = k * 6 := fun k => by simp [Builtin.zeroCells, hzc]
  obtain ⟨Z, hZ⟩ : ∃ Z : Array Value, Z = Builtin.zeroCells zv.cells (n + 1 - i) ++ Builtin.zeroCells zv.cells (G - (n + 1)) := ⟨_, rfl⟩
  have hZs : Z.size = (G - (n + 1)) * 6 + (n + 1 - i) * 6 := by rw [hZ, Array.size_append, hZsz, hZsz, Nat.add_comm]
  obtain ⟨ROW, hROW⟩ : ∃ ROW : Array Value, ROW = (cs.take (i * 6)).toArray ++ Z := ⟨_, rfl⟩
  rw [← hG] at hrz
  simp only [Array.append_assoc] at hrz
  rw [← hZ, ← hROW] at hrz
  have hRl : (n + 1) * 6 ≤ ROW.size := by
    rw [hROW]
    simp [hZs]
    omega
  obtain ⟨W1, hW1⟩ : ∃ W1, W1 = w.drew.alloc (.cells ROW 32) := ⟨_, rfl⟩
  rw [← hW1] at hrz
  have hN : ∀ j, j < (n + 1) * 6 → (W1.cell? ⟨w.heap.size, j, none⟩).isSome = true := fun j hj => by
    rw [hW1, World.cell?_alloc_at (w := w.drew) ROW _ w.heap.size j rfl, Array.getElem?_eq_getElem (by omega)]; rfl
  have hNf : ∀ j, W1.frozen? ⟨w.heap.size, j, none⟩ = false := fun j => by rw [hW1]; exact World.frozen?_alloc_at (w := w.drew) ROW _ w.heap.size j rfl
  have hOb : ∀ j v, w.cell? ⟨b, j, none⟩ = some v → W1.cell? ⟨b, j, none⟩ = some v := fun j v h => by rw [hW1, World.cell?_alloc_past (w := w.drew) _ b j hbw]; exact h
  have hOv : ∀ j v, w.cell? ⟨vb, j, none⟩ = some v → W1.cell? ⟨vb, j, none⟩ = some v := fun j v h => by rw [hW1, World.cell?_alloc_past (w := w.drew) _ vb j hvw]; exact h
  have hGn : n + 1 ≤ G := by rw [hG]; exact grownCap_ge w _ _ _
  have hcpA : ∀ (W : World), (∀ x, W.cell? x = W1.cell? x) → (∀ x, W.frozen? x = W1.frozen? x) → ∀ ty dc, (Builtin.copy_ #[27, 27] ty #[.slice (some ⟨w.heap.size, i * 6, none⟩) (n + 1 - i) dc, .slice (some ⟨vb, voff, none⟩) 1 vc]).run Tryz.prog W = .ok (goInt (Nat.min 1 (n + 1 - i) : Nat)) (W.setCells w.heap.size (i * 6) vs) := fun W hWc hWf ty dc =>
    run_copy_cellsN 6 W _ _ ty 32 w.heap.size (i * 6) (n + 1 - i) dc ⟨vb, voff, none⟩ 1 vc vs Tryz.underlying27 hsz (by rw [hvl]; simp only [Nat.min_def]; split <;> omega)
      (fun j v hj => by rw [Addr.add_lit, hWc]; exact hOv _ v (hvs j v hj))
      (fun j hj => by rw [hWc]; exact hN _ (by omega)) (fun j hj => by rw [hWf]; exact hNf _) h1v
  have hG63 : G ≤ 9223372036854775807 := by
    have := grownCap_le_maxLen w (n + 1) n 32 (by unfold maxLen; omega)
    rw [← hG] at this
    unfold maxLen at this
    omega
  have hGi : ¬ (G = i) := by omega
  have hGim : ¬ (G = i + 1) := by omega
  have hci : ¬ (n = i) := by omega
  have hbN : b ≠ w.heap.size := by omega
  have hdl : (cs.drop (i * 6)).length = (n - i) * 6 := by rw [List.length_drop, hcl]; omega
  have hcpB : ∀ (W : World), (∀ x, W.cell? x = (W1.setCells w.heap.size (i * 6) vs).cell? x) → (∀ x, W.frozen? x = (W1.setCells w.heap.size (i * 6) vs).frozen? x) → ∀ ty dc sc, (Builtin.copy_ #[27, 27] ty #[.slice (some ⟨w.heap.size, (i + 1) * 6, none⟩) (n + 1 - (i + 1)) dc, .slice (some ⟨b, off + i * 6, none⟩) (n - i) sc]).run Tryz.prog W = .ok (goInt (Nat.min (n - i) (n + 1 - (i + 1)) : Nat)) (W.setCells w.heap.size ((i + 1) * 6) (cs.drop (i * 6))) := fun W hWc hWf ty dc sc =>
    run_copy_cellsN 6 W _ _ ty 32 w.heap.size ((i + 1) * 6) (n + 1 - (i + 1)) dc ⟨b, off + i * 6, none⟩ (n - i) sc (cs.drop (i * 6)) Tryz.underlying27 hsz (by rw [hdl]; simp only [Nat.min_def]; split <;> omega)
      (fun j v hj => by
        rw [Addr.add_lit, hWc, World.cell?_setCells_out _ _ _ _ _ (fun h _ => absurd h hbN), Nat.add_assoc]
        exact hOb _ v (hcs (i * 6 + j) v (by rwa [List.getElem?_drop] at hj)))
      (fun j hj => by rw [hWc]; exact isSome_setCells _ _ _ _ (fun t ht => hN _ (by omega)) _ (hN _ (by omega)))
      (fun j hj => by rw [hWf, World.frozen?_setCells]; exact hNf _) (fun v hv => h1c v (List.mem_of_mem_drop hv))
  have hw1 : IntKind.i64.wrap ((i : Int) + 1) = (i : Int) + 1 := by rw [IntKind.wrap_i64]; omega
  have hb1 : (0 : Int) ≤ (i : Int) + 1 := by omega
  have hin : i ≤ n := by omega
  have htn : ((i : Int) + 1).toNat = i + 1 := by omega
  have hb3 : (i : Int) ≤ (n : Int) := by omega
  refine Calls.mono (R := fun e w' => e = .returned (.slice (some ⟨w.heap.size, 0, none⟩) (n + 1) G) ∧ w' = (((w.alloc (.cells ROW 32)).drew.setCells w.heap.size (i * 6) vs).drew).setCells w.heap.size ((i + 1) * 6) (cs.drop (i * 6))) ?_ ?_
  · subst hW1
    have hE1 : ∀ x, ((w.alloc (.cells ROW 32)).drew).cell? x = (w.drew.alloc (.cells ROW 32)).cell? x := fun x => rfl
    have hE2 : ∀ x, ((w.alloc (.cells ROW 32)).drew).frozen? x = (w.drew.alloc (.cells ROW 32)).frozen? x := fun x => rfl
    have hF1 : ∀ x, (((w.alloc (.cells ROW 32)).drew.setCells w.heap.size (i * 6) vs).drew).cell? x = ((w.drew.alloc (.cells ROW 32)).setCells w.heap.size (i * 6) vs).cell? x := fun x => rfl
    have hF2 : ∀ x, (((w.alloc (.cells ROW 32)).drew.setCells w.heap.size (i * 6) vs).drew).frozen? x = ((w.drew.alloc (.cells ROW 32)).setCells w.heap.size (i * 6) vs).frozen? x := fun x => rfl
    clear hkk hik hold hROW hG hRl hZ hZs hZsz hi0 hz0 hzc hzs hzb
    go_enter Tryz.func29, Tryz.ntmps29
    go_wp2_with (first
      | (at_builtin; refine Lib.wpList_append_run _ rfl _ _ _ _ rfl _ _ rfl rfl _ _ (hrz _) ?_)
      | (at_builtin; refine wpList_copy_runI _ rfl _ _ 27 27 rfl _ _ rfl rfl (hcpA _ hE1 hE2 _ _) ?_)
      | (at_builtin; refine wpList_copy_runI _ rfl _ _ 27 27 rfl _ _ rfl rfl (hcpB _ (fun _ => rfl) (fun _ => rfl) _ _ _) ?_))
    go_region_law_o (refine step_copy_runI rfl _ _ 27 27 rfl (.slice (some ⟨w.heap.size, (i + 1) * 6, none⟩) (n + 1 - (i + 1)) (G - (i + 1))) (.slice (some ⟨b, off + i * 6, none⟩) (n - i) (n - i)) (by simp [Act.eval, Act.put]) (by simp [Act.eval, Act.put]) (hcpB _ hF1 hF2 3 (G - (i + 1)) (n - i)) ?_)
    go_wp2
    go_ret
    exact ⟨rfl, rfl⟩
  · rintro e w' ⟨h1, h2⟩
    have hR0 : ROW.toList = cs.take (i * 6) ++ Z.toList := by rw [hROW]; simp
    have hRs : ROW.size = G * 6 := by rw [hROW]; simp [hZs]; omega
    have hl0 : (cs.take (i * 6)).length = i * 6 := by rw [List.length_take]; omega
    have hs1 : (setsA ROW (i * 6) vs).toList = cs.take (i * 6) ++ vs ++ Z.toList.drop 6 := by
      rw [setsA_list _ _ _ (by omega), hR0, List.take_left' hl0, hvl, ← List.drop_drop, List.drop_left' hl0]
    have hs1' : (setsA ROW (i * 6) vs).size = G * 6 := by
      rw [← Array.length_toList, hs1]; simp [hl0, hvl, hZs]; omega
    have hs2 : (setsA (setsA ROW (i * 6) vs) ((i + 1) * 6) (cs.drop (i * 6))).toList = cs.take (i * 6) ++ vs ++ cs.drop (i * 6) ++ (setsA ROW (i * 6) vs).toList.drop ((i + 1) * 6 + (cs.drop (i * 6)).length) := by
      rw [setsA_list _ _ _ (by rw [hdl]; omega)]
      congr 2
      rw [hs1]
      exact List.take_left' (by simp [hl0, hvl]; omega)
    refine ⟨G, setsA (setsA ROW (i * 6) vs) ((i + 1) * 6) (cs.drop (i * 6)), w'.drawn, h1, hGn, hG63, ?_, ?_, ?_⟩
    · rw [← Array.length_toList, hs2]; simp [hl0, hvl, hdl, hs1', hcl]; omega
    · rw [hs2]; exact List.take_left' (by simp [hl0, hvl, hcl]; omega)
    · rw [h2, ← drew_setCells, show ((w.alloc (.cells ROW 32)).drew.setCells w.heap.size (i * 6) vs) = ((w.alloc (.cells ROW 32)).setCells w.heap.size (i * 6) vs).drew from (drew_setCells _ _ _ _).symm, setCells_alloc, ← drew_setCells, setCells_alloc]
      rfl
end Go.Proofs.YtmnenigmkfnciaaGreatDoor.Ins
