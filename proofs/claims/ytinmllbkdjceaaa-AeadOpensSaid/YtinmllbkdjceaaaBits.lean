/- The functions of math/bits that the program calls, as contracts. No condition. -/
import Derived.Test.YtinmllbkdjceaaaSx11
import Derived.Test.YtinmllbkdjceaaaProg
namespace Go.Proofs.Ytinmllbkdjceaaa.Sx
open Go Go.Proofs
set_option maxRecDepth 100000
set_option linter.unusedSimpArgs false
set_option linter.unusedVariables false

theorem mixed : Try.prog.follows .mixedOrders = true := by kernel_rfl
/-- The numbers in a block. -/
def gi (st : St) (i : Nat) : List Int := match nth st.tbl i with
  | some (.ints _ _ l) => l
  | _ => []
/-- The numbers that a slot of the frame holds; the one. -/
def gv (st : St) (t : Nat) : List Int := match look st.env t with
  | some (.ia _ l) => l
  | _ => []
def sv (st : St) (t : Nat) : SV := match look st.env t with
  | some x => x
  | none => .unk
def nv (s : SV) : Nat := match s with
  | .v (.int _ x) => x.toNat
  | _ => 0
def sbytes (s : SV) : List Int := match s with
  | .v (.string s) => bytesL s
  | _ => []
theorem nbeq (n : Nat) : n.beq n = true := Nat.beq_refl n
theorem nble (n : Nat) : n.ble n = true := Nat.ble_eq.mpr (Nat.le_refl n)
theorem seq_rfl (s : ByteArray) : seq s s = true := (seq_iff s s).2 rfl
theorem bytesL_len (s : ByteArray) : (bytesL s).length = s.size := by rw [bytesL, List.length_map, Array.length_toList]; rfl
theorem nv_int (x : Int) : nv (.v (.int .i64 x)) = x.toNat := by rw [nv]
theorem sbytes_str (s : ByteArray) : sbytes (.v (.string s)) = bytesL s := by rw [sbytes]
theorem bstr_size (l : List Int) : (bstr l).size = l.length := by simp [bstr, ByteArray.size]
theorem bytesL_bstr {l : List Int} (h : ∀ x ∈ l, 0 ≤ x ∧ x < 256) : bytesL (bstr l) = l := by
  unfold bytesL bstr
  simp only [List.map_map]
  refine (List.map_congr_left (g := id) fun x hx => ?_).trans (List.map_id l)
  have := h x hx
  simp only [Function.comp, id, UInt8.toNat_ofNat']
  omega
theorem bytesL_inj {s t : ByteArray} (h : bytesL s = bytesL t) : s = t := by
  unfold bytesL at h
  have := List.map_inj_right (f := fun b : UInt8 => (b.toNat : Int)) (fun x y h => UInt8.toNat_inj.mp (by exact_mod_cast h)) |>.mp h
  cases s; cases t; simp_all
theorem bytesL_range {s : ByteArray} : ∀ x ∈ bytesL s, 0 ≤ x ∧ x < 256 := by
  intro x hx
  simp only [bytesL, List.mem_map] at hx
  obtain ⟨b, _, rfl⟩ := hx
  have := b.toNat_lt; omega
theorem bstr_bytesL (s : ByteArray) : bstr (bytesL s) = s := bytesL_inj (bytesL_bstr bytesL_range)
theorem bt_bytesL (s : ByteArray) (j : Nat) : bt s j = (bytesL s).getD j 0 := by
  unfold bt bytesL
  simp only [Int.toNat_natCast, List.getD_eq_getElem?_getD, List.getElem?_map]
  cases s.data.toList[j]? <;> rfl
theorem ob_true {p : Prop} (hp : p) : ob true p := hp
theorem weaken {P : Program} {f : FuncId} {g g' : List SV → List Blk → (SV → Prop) → Prop} (h : SpecOK P f (.q g)) (hw : ∀ args blks K, g' args blks K → g args blks K) : SpecOK P f (.q g') := ⟨h.1, fun args blks K hg => h.2 args blks K (hw args blks K hg)⟩
theorem bc_f {p q : Prop} : bc false p q = q := rfl
theorem bc_t {p q : Prop} : bc true p q = p := rfl
theorem ob_t {p : Prop} : ob true p = p := rfl
def rot32F (x n : Int) : Int := ior .u32 (ishl .u32 x (iand .u64 (IntKind.u64.wrap n) 31)) (ishr .u32 x (IntKind.u64.wrap (32 - iand .u64 (IntKind.u64.wrap n) 31)))
def rot32S : Spec := .q fun args blks K => match args, blks with
  | [.v (.int .u32 x), .v (.int .i64 n)], [] => K (.v (.int .u32 (rot32F x n)))
  | _, _ => False
theorem rot32_vf (x n : Int) (K : SV → List Blk → List Nat → Prop) : vf Try.prog [] (noI) Try.f67 [.v (.int .u32 x), .v (.int .i64 n)] [] K =
  (ob (decide (0 ≤ IntKind.u64.wrap (32 - iand IntKind.u64 (IntKind.u64.wrap n) 31))) (K (SV.v (Value.int IntKind.u32 (ior IntKind.u32 (ishl IntKind.u32 x (iand IntKind.u64 (IntKind.u64.wrap n) 31)) (ishr IntKind.u32 x (IntKind.u64.wrap (32 - iand IntKind.u64 (IntKind.u64.wrap n) 31)))))) [] [])) := by kernel_rfl

theorem wrap_u64 (x : Int) : IntKind.u64.wrap x = x % 18446744073709551616 := by
  unfold IntKind.wrap; simp [IntKind.bits, IntKind.signed]
theorem wrap_u32 (x : Int) : IntKind.u32.wrap x = x % 4294967296 := by
  unfold IntKind.wrap; simp [IntKind.bits, IntKind.signed]
theorem wrap_u8 (x : Int) : IntKind.u8.wrap x = x % 256 := by
  unfold IntKind.wrap; simp [IntKind.bits, IntKind.signed]
theorem wrap_i64 (x : Int) (h0 : -9223372036854775808 ≤ x) (h1 : x ≤ 9223372036854775807) : IntKind.i64.wrap x = x := by
  rw [IntKind.wrap_i64]; omega
theorem wrap_u64' (x : Int) (h0 : 0 ≤ x) (h1 : x < 18446744073709551616) : IntKind.u64.wrap x = x := by rw [wrap_u64]; omega

theorem iand_u64_31 (n : Int) : 0 ≤ iand .u64 n 31 ∧ iand .u64 n 31 ≤ 31 := by
  have h : (BitVec.ofInt IntKind.u64.bits n &&& BitVec.ofInt IntKind.u64.bits 31).toNat ≤ 31 := by
    rw [BitVec.toNat_and]
    exact Nat.le_trans Nat.and_le_right (by decide)
  unfold iand
  generalize (BitVec.ofInt IntKind.u64.bits n &&& BitVec.ofInt IntKind.u64.bits 31).toNat = m at h
  rw [wrap_u64]; omega
theorem rot32_ok : SpecOK Try.prog 67 rot32S := by
  refine q_of mixed SpecsOK.nil Try.func67 rfl rfl fun args blks K h => ?_
  split at h
  · rename_i x n
    refine ⟨_, rfl, h, rfl, noI, ?_⟩
    rw [rot32_vf]
    refine ob_mk ?_ ⟨rfl, ⟨rfl, rfl⟩, rfl⟩
    have h1 := iand_u64_31 (IntKind.u64.wrap n)
    rw [wrap_u64' (32 - _) (by omega) (by omega)]
    simp; omega
  · exact h.elim

end Go.Proofs.Ytinmllbkdjceaaa.Sx
