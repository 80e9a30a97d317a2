/- What all parts use: the orders, numbers of values, from a contract to a call in any world. No condition. -/
import Derived.Test.YtmnenigmkfnciaaGreatDoorSx13
import Derived.Test.YtmnenigmkfnciaaGreatDoorProg
namespace Go.Proofs.YtmnenigmkfnciaaGreatDoor.Sx
open Go Go.Proofs
set_option maxRecDepth 100000
set_option linter.unusedSimpArgs false
set_option linter.unusedVariables false

theorem mixed : (Tryz.prog).follows .mixedOrders = true := rfl
/-- The numbers in a block. -/
def gi (st : St) (i : Nat) : List Int := match nth st.tbl i with
  | some (.ints _ _ l) => l
  | _ => []
/-- The numbers that a slot of the frame holds; the one. -/
def gv (st : St) (t : Nat) : List Int := match look st.env t with
  | some (.ia _ l) => l
  | _ => []
def sv (st : St) (t : Nat) : SV := match look st.env t with
  | some x => x
  | none => .unk
def nv (s : SV) : Nat := match s with
  | .v (.int _ x) => x.toNat
  | _ => 0
def sbytes (s : SV) : List Int := match s with
  | .v (.string s) => bytesL s
  | _ => []
theorem nbeq (n : Nat) : n.beq n = true := Nat.beq_refl n
theorem nble (n : Nat) : n.ble n = true := Nat.ble_eq.mpr (Nat.le_refl n)
theorem seq_rfl (s : ByteArray) : seq s s = true := (seq_iff s s).2 rfl
theorem bytesL_len (s : ByteArray) : (bytesL s).length = s.size := by rw [bytesL, List.length_map, Array.length_toList]; rfl
theorem nv_int (x : Int) : nv (.v (.int .i64 x)) = x.toNat := by rw [nv]
theorem sbytes_str (s : ByteArray) : sbytes (.v (.string s)) = bytesL s := by rw [sbytes]
theorem bstr_size (l : List Int) : (bstr l).size = l.length := by simp [bstr, ByteArray.size]
theorem bytesL_bstr {l : List Int} (h : ∀ x ∈ l, 0 ≤ x ∧ x < 256) : bytesL (bstr l) = l := by
  unfold bytesL bstr
  simp only [List.map_map]
  refine (List.map_congr_left (g := id) fun x hx => ?_).trans (List.map_id l)
  have := h x hx
  simp only [Function.comp, id, UInt8.toNat_ofNat']
  omega
theorem bytesL_inj {s t : ByteArray} (h : bytesL s = bytesL t) : s = t := by
  unfold bytesL at h
  have := List.map_inj_right (f := fun b : UInt8 => (b.toNat : Int)) (fun x y h => UInt8.toNat_inj.mp (by exact_mod_cast h)) |>.mp h
  cases s; cases t; simp_all
theorem bytesL_range {s : ByteArray} : ∀ x ∈ bytesL s, 0 ≤ x ∧ x < 256 := by
  intro x hx
  simp only [bytesL, List.mem_map] at hx
  obtain ⟨b, _, rfl⟩ := hx
  have := b.toNat_lt; omega
theorem bstr_bytesL (s : ByteArray) : bstr (bytesL s) = s := bytesL_inj (bytesL_bstr bytesL_range)
theorem bt_bytesL (s : ByteArray) (j : Nat) : bt s j = (bytesL s).getD j 0 := by
  unfold bt bytesL
  simp only [Int.toNat_natCast, List.getD_eq_getElem?_getD, List.getElem?_map]
  cases s.data.toList[j]? <;> rfl
theorem ob_true {p : Prop} (hp : p) : ob true p := hp
theorem weaken {P : Program} {f : FuncId} {g g' : List SV → List Blk → (SV → Prop) → Prop} (h : SpecOK P f (.q g)) (hw : ∀ args blks K, g' args blks K → g args blks K) : SpecOK P f (.q g') := ⟨h.1, fun args blks K hg => h.2 args blks K (hw args blks K hg)⟩
theorem bc_f {p q : Prop} : bc false p q = q := rfl
theorem bc_t {p q : Prop} : bc true p q = p := rfl
theorem ob_t {p : Prop} : ob true p = p := rfl
theorem wrap_u64 (x : Int) : IntKind.u64.wrap x = x % 18446744073709551616 := by
  unfold IntKind.wrap; simp [IntKind.bits, IntKind.signed]
theorem wrap_u32 (x : Int) : IntKind.u32.wrap x = x % 4294967296 := by
  unfold IntKind.wrap; simp [IntKind.bits, IntKind.signed]
theorem wrap_u8 (x : Int) : IntKind.u8.wrap x = x % 256 := by
  unfold IntKind.wrap; simp [IntKind.bits, IntKind.signed]
theorem wrap_i64 (x : Int) (h0 : -9223372036854775808 ≤ x) (h1 : x ≤ 9223372036854775807) : IntKind.i64.wrap x = x := by
  rw [IntKind.wrap_i64]; omega
theorem wrap_u64' (x : Int) (h0 : 0 ≤ x) (h1 : x < 18446744073709551616) : IntKind.u64.wrap x = x := by rw [wrap_u64]; omega

theorem calls_of {f : FuncId} {g : List SV → List Blk → (SV → Prop) → Prop} (h : SpecOK Tryz.prog f (.q g)) {args : List SV} {us : Array Value} (hr : RelL 0 id (fun _ => (0, 0)) args us.toList) (hg : ∀ K : SV → Prop, K (.v (.bool true)) → g args [] K) (w : World) (hG : GOK [] w) :
    Calls Tryz.prog f us w fun e w' => e = .returned (.bool true) ∧ RowKit.Below w.heap.size w w' := by
  obtain ⟨s, hs, hK, hF⟩ := h.2 args [] (fun s => s = .v (.bool true)) (hg _ rfl)
  have hT : TOK id (fun _ => (0, 0)) { A := [], W := [], w0 := w } [] w := by
    refine ⟨hG, Fr.refl _ _, ?_, ?_, ?_, ?_, ⟨?_, ?_, ?_, ?_⟩⟩ <;> intro i <;> intros <;> simp_all
  refine (hF _ id (fun _ => (0, 0)) us w hr hT).mono ?_
  rintro e w' ⟨s', v, tbl', mv, ρ', σ', h1, h2, h3, h4, h5, h6, h7, h8⟩
  subst h6 hK
  exact ⟨by rw [h1]; exact congrArg _ h2, h5.fr.below⟩

end Go.Proofs.YtmnenigmkfnciaaGreatDoor.Sx
