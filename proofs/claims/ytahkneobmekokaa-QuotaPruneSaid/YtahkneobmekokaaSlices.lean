/- A slice among the arguments, as the walk takes it. No condition. -/
import Derived.Deep.Slices
import Derived.ChangeSlices
import Derived.WideShapes
import Derived.Test.YtahkneobmekokaaSx12
import Derived.Test.YtahkneobmekokaaProg
import Derived.Test.YtahkneobmekokaaBase
namespace Go.Proofs.Ytahkneobmekokaa.Sx
open Go Go.Proofs
set_option maxRecDepth 100000
set_option linter.unusedSimpArgs false
set_option linter.unusedVariables false

theorem slice_spot {P : Program} {w : World} {base : Nat} {t e : TypeId} {a : Addr} {len cap : Nat} (ht : P.underlying t = some (.slice e)) (h : Value.okWide P w .any base t (.slice (some a) len cap)) : a.spot = none := by
  simp only [Value.okWide, ht, Cell.okWide, Cell.ok, World.has] at h
  exact h.2.2.2.1
/-- Cells that hold numbers, and are not frozen, are a view. -/
theorem lies_ints {w : World} {b off : Nat} {k : IntKind} : ∀ (n : Nat), 0 < n → (∀ j, j < n → ∃ x, w.cell? ⟨b, off + j, none⟩ = some (.int k x)) → (∀ j, j < n → w.frozen? ⟨b, off + j, none⟩ = false) →
    ∃ D : List Int, D.length = n ∧ Lies w b (n, off) (D.map (Value.int k)) := by
  intro n hn hc hf
  obtain ⟨x0, h0⟩ := hc 0 hn
  unfold World.cell? at h0
  split at h0
  · rename_i cs T fr hb
    have hcell : ∀ j, j < n → ∃ x, cs[off + j]? = some (.int k x) := fun j hj => by
      obtain ⟨x, hx⟩ := hc j hj
      unfold World.cell? at hx
      simp only [hb] at hx
      exact ⟨x, by simpa using hx⟩
    obtain ⟨D, hlen, hD⟩ : ∃ D : List Int, D.length = n ∧ ∀ j, j < n → cs[off + j]? = some (.int k (D.getD j 0)) := by
      refine ⟨(List.range n).map fun j => match cs[off + j]? with | some (.int _ x) => x | _ => 0, by simp, fun j hj => ?_⟩
      obtain ⟨x, hx⟩ := hcell j hj
      have : ((List.range n).map fun j => match cs[off + j]? with | some (.int _ x) => x | _ => 0).getD j 0 = x := by
        simp only [List.getD_eq_getElem?_getD, List.getElem?_map, List.getElem?_range hj, Option.map_some, Option.getD_some, hx]
      rw [hx, this]
    have hsz : off + n ≤ cs.size := by
      obtain ⟨x, hx⟩ := hcell (n - 1) (by omega)
      have := (Array.getElem?_eq_some_iff.1 hx).1
      omega
    refine ⟨D, hlen, cs, T, fr, cs.toList.take off, cs.toList.drop (off + n), hb, hsz, fun o ho => ?_, ?_, by simp; omega, by simp [hlen]⟩
    · have := hf o ho
      simp only [World.frozen?, hb] at this
      exact this
    · have e1 : D.map (Value.int k) = (cs.toList.drop off).take n := by
        apply List.ext_getElem?
        intro j
        rw [List.getElem?_take]
        by_cases hj : j < n
        · have := hD j hj
          simp only [hj, if_true, List.getElem?_drop, List.getElem?_map]
          have hjl : j < D.length := by omega
          rw [show cs.toList[off + j]? = cs[off + j]? from Array.getElem?_toList, this, List.getD_eq_getElem?_getD, List.getElem?_eq_getElem hjl]
          rfl
        · simp [hj, hlen]
      rw [e1]
      have e2 : cs.toList.drop (off + n) = (cs.toList.drop off).drop n := by rw [List.drop_drop]
      rw [e2, List.take_append_drop, List.take_append_drop]
  · cases h0
/-- A slice of structs of so many numbers. -/
theorem open_structs {H : Type} {enc : TypeId × Value → H} {P : Program} {w : World} {base : Nat} {held : Bool} {t e : TypeId} {fs : Array Field} {k : IntKind} {c fuel : Nat} {v : Value} {d : DataW H} {p : List MemPlace}
    (ht : P.underlying t = some (.slice e)) (he : P.underlying e = some (.struct fs)) (hce : P.cellsOf e = c) (hc : 0 < c)
    (hfs : ∀ j, j < c → ∃ f, fs[j]? = some f ∧ f.offset = j ∧ P.cellsOf f.type = 1 ∧ P.underlying f.type = some (.int k))
    (hv : Value.okWide P w .any base t v) (hfz : w.noneFrozen p)
    (h : DataW.trod enc P w 0 (fun _ => true) held fuel t [v] = some (d, p)) :
    ∃ (n cp b off : Nat) (D : List Int), D.length = n * c ∧ n ≤ cp ∧ ((v = .slice none 0 0 ∧ n = 0 ∧ cp = 0) ∨ v = .slice (some ⟨b, off, none⟩) n cp) ∧ ((cp = 0 ∧ D = []) ∨ Lies w b (cp * c, off) (D.map (Value.int k))) := by
  rcases Deep.open_slice ht h with ⟨h0, _⟩ | ⟨a, len, cap, m, n', Df, Pl, hvv, _, hlc, _, hm, hx, hel⟩
  · cases h0
    exact ⟨0, 0, 0, 0, [], by simp, Nat.le_refl _, .inl ⟨rfl, rfl, rfl⟩, .inl ⟨rfl, rfl⟩⟩
  · cases hvv
    simp only [if_true] at hm
    have hm := hm.symm
    subst hm
    have hs := slice_spot ht hv
    obtain ⟨b, off, sp⟩ := a
    simp only at hs
    subst hs
    by_cases hm0 : cap = 0
    · subst hm0
      have : len = 0 := by omega
      subst this
      exact ⟨0, 0, b, off, [], by simp, Nat.le_refl _, .inr rfl, .inl ⟨rfl, rfl⟩⟩
    · have hp : ∀ j, j < cap * c → MemPlace.cell b (off + j) ∈ p := fun j hj => by
        have hpe := congrArg Prod.snd hx
        simp only at hpe
        rw [hpe, hce]
        refine List.mem_append_left _ (List.mem_map.2 ⟨j, List.mem_range.2 hj, rfl⟩)
      have hcells : ∀ j, j < cap * c → ∃ x, w.cell? ⟨b, off + j, none⟩ = some (.int k x) := fun j hj => by
        have hi : j / c < cap := (Nat.div_lt_iff_lt_mul hc).2 hj
        have hd : j % c < c := Nat.mod_lt _ hc
        obtain ⟨cs', h1, h2⟩ := hel (j / c) hi
        rw [hce] at h1
        obtain ⟨_, hlen, hcell⟩ := World.cells?_some h1
        obtain ⟨xs, n2, _, _, _, hxl, hf⟩ := DataW.trod_struct he h2
        obtain ⟨f, hf1, hf2, hf3, hf4⟩ := hfs (j % c) hd
        have hg := hf (j % c) f hf1
        rw [hf2, hf3] at hg
        have hjx : j % c < xs.length := by
          rw [hxl]; exact (Array.getElem?_eq_some_iff.1 hf1).1
        rw [List.getElem?_eq_getElem hjx] at hg
        obtain ⟨x, hx1, _⟩ := DataW.trod_int hf4 hg
        have hget : cs'[j % c]? = some (.int k x) := by
          have := congrArg (·[0]?) hx1
          simpa [List.getElem?_take, List.getElem?_drop] using this
        refine ⟨x, ?_⟩
        have hc2 := hcell (j % c) hd
        rw [hget] at hc2
        rw [addr_add, addr_add] at hc2
        rw [← hc2]
        congr 2
        have := Nat.div_add_mod j c
        rw [Nat.mul_comm] at this
        omega
      obtain ⟨D, hD, hL⟩ := lies_ints (w := w) (b := b) (off := off) (k := k) (cap * c) (Nat.mul_pos (by omega) hc) hcells (fun j hj => hfz b (off + j) (hp j hj))
      refine ⟨len, cap, b, off, D.take (len * c), ?_, hlc, .inr rfl, .inr ?_⟩
      · rw [List.length_take, hD]
        have := Nat.mul_le_mul_right c hlc
        omega
      · rw [List.map_take]; exact hL.weaken _
theorem calls_of1 {f : FuncId} {g : List SV → List Blk → (SV → Prop) → Prop} (h : SpecOK Try.prog f (.q g)) {args : List SV} {us : Array Value} {w : World} {b : Nat} {z : Nat × Nat} {k : IntKind} {D : List Int} (hr : RelL 1 (fun _ => b) (fun _ => z) args us.toList)
    (hL : (z.1 = 0 ∧ D = []) ∨ Lies w b z (D.map (Value.int k))) (hg : ∀ K : SV → Prop, K (.v (.bool true)) → g args [.ints false k D] K) :
    Calls Try.prog f us w fun e w' => e = .returned (.bool true) ∧ RowKit.Below w.heap.size w w' := by
  obtain ⟨s, hs, hK, hF⟩ := h.2 args [.ints false k D] (fun s => s = .v (.bool true)) (hg _ rfl)
  have get0 : ∀ (i : Nat) (c : Blk), [Blk.ints false k D][i]? = some c → i = 0 ∧ c = .ints false k D := fun i c hi => by
    cases i with
    | zero => simp at hi; exact ⟨rfl, hi.symm⟩
    | succ i => simp at hi
  have hT : TOK (fun _ => b) (fun _ => z) { A := [b], W := [], w0 := w } [.ints false k D] w := by
    refine ⟨Fr.refl _ _, fun i c hi hd => ?_, fun i c hi hd hz => .inl (by simp), fun i c hi hw hz => ?_, fun i j c d hi hj hc hd hsi hsj he => ?_⟩
    · obtain ⟨rfl, rfl⟩ := get0 i c hi
      rcases hL with ⟨h1, rfl⟩ | hL
      · exact .inl ⟨h1, rfl⟩
      · exact .inr ⟨_, rfl, hL⟩
    · obtain ⟨rfl, rfl⟩ := get0 i c hi
      cases hw
    · rw [(get0 i c hi).1, (get0 j d hj).1]
  refine (hF _ _ _ us w hr hT).mono ?_
  rintro e w' ⟨s', v, tbl', mv, ρ', σ', h1, h2, h3, h4, h5, h6, h7, h8⟩
  subst h6 hK
  exact ⟨by rw [h1]; exact congrArg _ h2, h5.fr.below⟩

end Go.Proofs.Ytahkneobmekokaa.Sx
