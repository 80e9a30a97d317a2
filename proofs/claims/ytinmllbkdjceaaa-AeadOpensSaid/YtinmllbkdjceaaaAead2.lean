/- The sealed texts: opened; the statements' helpers. No condition. -/
import Derived.Test.YtinmllbkdjceaaaSx11
import Derived.Test.YtinmllbkdjceaaaProg
import Derived.Test.YtinmllbkdjceaaaBits
import Derived.Test.YtinmllbkdjceaaaWords
import Derived.Test.YtinmllbkdjceaaaChacha1
import Derived.Test.YtinmllbkdjceaaaChacha2
import Derived.Test.YtinmllbkdjceaaaChacha3
import Derived.Test.YtinmllbkdjceaaaChacha4
import Derived.Test.YtinmllbkdjceaaaChacha5
import Derived.Test.YtinmllbkdjceaaaChacha6
import Derived.Test.YtinmllbkdjceaaaPoly1
import Derived.Test.YtinmllbkdjceaaaPoly2
import Derived.Test.YtinmllbkdjceaaaPoly3
import Derived.Test.YtinmllbkdjceaaaPoly4
import Derived.Test.YtinmllbkdjceaaaPoly5
import Derived.Test.YtinmllbkdjceaaaPoly6
import Derived.Test.YtinmllbkdjceaaaAead1
namespace Go.Proofs.Ytinmllbkdjceaaa.Sx
open Go Go.Proofs
set_option maxRecDepth 100000
set_option linter.unusedSimpArgs false
set_option linter.unusedVariables false

def bodyB (s : ByteArray) : ByteArray := s.extract 0 (s.size - 16)
def tailB (s : ByteArray) : ByteArray := s.extract (s.size - 16) s.size
def openS : Spec := .q fun args blks K => match args, blks with
  | [.v (.string key), .v (.string nonce), .v (.string s), .v (.string more)], [] => ob (decide (s.size ≤ 10000) && decide (more.size ≤ 10000)) (bc (decide (s.size < 16))
      (K (.tup [.v (.string ⟨#[]⟩), .v (.int .i64 2)]))
      (bc (badKey key nonce)
        (K (.tup [.v (.string ⟨#[]⟩), .v (.int .i64 2)]))
        (bc (seq (sumF key nonce (bodyB s) more) (tailB s))
          (K (.tup [.v (.string (xorF key nonce 1 (bodyB s))), .v (.int .i64 0)]))
          (K (.tup [.v (.string ⟨#[]⟩), .v (.int .i64 4)])))))
  | _, _ => False
theorem aopen_vf (key nonce s more : ByteArray) (K : SV → List Blk → List Nat → Prop) : vf Try.prog [(48, streamZ), (49, sumLS), (51, alikeS)] (noI) Try.f31 [.v (.string key), .v (.string nonce), .v (.string s), .v (.string more)] [] K =
  (bc (decide (IntKind.i64.wrap ((↑s.size : Int) - (16 : Int)) < (0 : Int))) (K (SV.tup [SV.v (Value.string { data := { toList := [] } }), SV.v (Value.int IntKind.i64 (2 : Int))]) [] []) (ob (decide ((0 : Int) ≤ IntKind.i64.wrap ((↑s.size : Int) - (16 : Int))) && decide (IntKind.i64.wrap ((↑s.size : Int) - (16 : Int)) ≤ (↑s.size : Int))) (ob (decide ((s.extract (0 : Nat) (IntKind.i64.wrap ((↑s.size : Int) - (16 : Int))).toNat).size ≤ (100000 : Nat))) (bc (badKey key nonce) (K (SV.tup [SV.v (Value.string { data := { toList := [] } }), SV.v (Value.int IntKind.i64 (2 : Int))]) [Blk.cells true [SV.v (Value.string key), SV.v (Value.string nonce)]] []) (ob (decide ((0 : Int) ≤ IntKind.i64.wrap ((↑s.size : Int) - (16 : Int))) && decide (IntKind.i64.wrap ((↑s.size : Int) - (16 : Int)) ≤ (↑s.size : Int))) (ob (!badKey key nonce && decide ((s.extract (0 : Nat) (IntKind.i64.wrap ((↑s.size : Int) - (16 : Int))).toNat).size ≤ (10000 : Nat)) && decide (more.size ≤ (10000 : Nat))) (ob (decide ((0 : Int) ≤ IntKind.i64.wrap ((↑s.size : Int) - (16 : Int))) && decide (IntKind.i64.wrap ((↑s.size : Int) - (16 : Int)) ≤ (↑s.size : Int))) (ob (decide ((sumF key nonce (s.extract (0 : Nat) (IntKind.i64.wrap ((↑s.size : Int) - (16 : Int))).toNat) more).size = (16 : Nat)) && decide ((s.extract (IntKind.i64.wrap ((↑s.size : Int) - (16 : Int))).toNat s.size).size = (16 : Nat))) (bc (!seq (sumF key nonce (s.extract (0 : Nat) (IntKind.i64.wrap ((↑s.size : Int) - (16 : Int))).toNat) more) (s.extract (IntKind.i64.wrap ((↑s.size : Int) - (16 : Int))).toNat s.size)) (K (SV.tup [SV.v (Value.string { data := { toList := [] } }), SV.v (Value.int IntKind.i64 (4 : Int))]) [Blk.cells true [SV.v (Value.string key), SV.v (Value.string nonce)]] []) (K (SV.tup [SV.v (Value.string (xorF key nonce (1 : Int) (s.extract (0 : Nat) (IntKind.i64.wrap ((↑s.size : Int) - (16 : Int))).toNat))), SV.v (Value.int IntKind.i64 (0 : Int))]) [Blk.cells true [SV.v (Value.string key), SV.v (Value.string nonce)]] [])))))))))) := by kernel_rfl
def fillZF (n : Nat) : ByteArray := bstr (List.replicate n 0)
def key11S : Spec := .q fun args blks K => match args, blks with
  | [], [] => K (.v (.string (fillZF 32)))
  | _, _ => False
def nonce11S : Spec := .q fun args blks K => match args, blks with
  | [], [] => K (.v (.string (fillZF 12)))
  | _, _ => False
theorem key11_vf  (K : SV → List Blk → List Nat → Prop) : vf Try.prog [] (noI) Try.f46 [] [] K =
  (ob true (ob true (K (SV.v (Value.string (bstr [(0 : Int), (0 : Int), (0 : Int), (0 : Int), (0 : Int), (0 : Int), (0 : Int), (0 : Int), (0 : Int), (0 : Int), (0 : Int), (0 : Int), (0 : Int), (0 : Int), (0 : Int), (0 : Int), (0 : Int), (0 : Int), (0 : Int), (0 : Int), (0 : Int), (0 : Int), (0 : Int), (0 : Int), (0 : Int), (0 : Int), (0 : Int), (0 : Int), (0 : Int), (0 : Int), (0 : Int), (0 : Int)]))) [Blk.ints true IntKind.u8 [(0 : Int), (0 : Int), (0 : Int), (0 : Int), (0 : Int), (0 : Int), (0 : Int), (0 : Int), (0 : Int), (0 : Int), (0 : Int), (0 : Int), (0 : Int), (0 : Int), (0 : Int), (0 : Int), (0 : Int), (0 : Int), (0 : Int), (0 : Int), (0 : Int), (0 : Int), (0 : Int), (0 : Int), (0 : Int), (0 : Int), (0 : Int), (0 : Int), (0 : Int), (0 : Int), (0 : Int), (0 : Int)]] []))) := by kernel_rfl
theorem nonce11_vf  (K : SV → List Blk → List Nat → Prop) : vf Try.prog [] (noI) Try.f47 [] [] K =
  (ob true (ob true (K (SV.v (Value.string (bstr [(0 : Int), (0 : Int), (0 : Int), (0 : Int), (0 : Int), (0 : Int), (0 : Int), (0 : Int), (0 : Int), (0 : Int), (0 : Int), (0 : Int)]))) [Blk.ints true IntKind.u8 [(0 : Int), (0 : Int), (0 : Int), (0 : Int), (0 : Int), (0 : Int), (0 : Int), (0 : Int), (0 : Int), (0 : Int), (0 : Int), (0 : Int)]] []))) := by kernel_rfl
def few11S : Spec := .q fun args blks K => match args, blks with
  | [.agg [.v (.string _), .v (.string _), .v (.string more)], .v (.string s)], [] => K (.v (.bool (decide (more.size ≤ 1000) && decide (s.size ≤ 2000))))
  | _, _ => False
theorem few11_vf (key nonce more s : ByteArray) (K : SV → List Blk → List Nat → Prop) : vf Try.prog [] (noI) Try.f27 [.agg [.v (.string key), .v (.string nonce), .v (.string more)], .v (.string s)] [] K =
  (bc (decide ((↑more.size : Int) ≤ (1000 : Int))) (K (SV.v (Value.bool (bif true then decide ((↑s.size : Int) ≤ (2000 : Int)) else false))) [Blk.cells true [SV.v (Value.string key), SV.v (Value.string nonce), SV.v (Value.string more)]] []) (K (SV.v (Value.bool false)) [Blk.cells true [SV.v (Value.string key), SV.v (Value.string nonce), SV.v (Value.string more)]] [])) := by kernel_rfl
theorem open_ok : SpecOK Try.prog 31 openS := by
  have hS : SpecsOK Try.prog [(48, streamZ), (49, sumLS), (51, alikeS)] := SpecsOK.cons stream_ok (SpecsOK.cons sum_ok (SpecsOK.cons alike_ok SpecsOK.nil))
  refine q_of mixed hS Try.func31 rfl rfl fun args blks K h => ?_
  split at h
  · rename_i key nonce s more
    rw [ob_iff, bc_iff] at h
    obtain ⟨hs, hsm, hbig⟩ := h
    simp only [Bool.and_eq_true, decide_eq_true_eq] at hs
    have w : IntKind.i64.wrap ((s.size : Int) - 16) = (s.size : Int) - 16 := by rw [wrap_i64 _ (by omega) (by omega)]
    by_cases h16 : s.size < 16
    · refine ⟨_, rfl, hsm (decide_eq_true h16), rfl, noI, ?_⟩
      rw [aopen_vf, w]
      refine bc_mk (fun _ => (by repeat' (first | exact trivial | exact rfl | apply And.intro | (intro h; exact h)))) (fun h => ?_)
      have := of_decide_eq_false h
      exfalso; omega
    · have hbig := hbig (decide_eq_false h16)
      rw [bc_iff, bc_iff] at hbig
      obtain ⟨hb, hg⟩ := hbig
      have e1 : s.extract 0 ((s.size : Int) - 16).toNat = bodyB s := by rw [bodyB]; exact congrArg _ (by omega)
      have e2 : s.extract ((s.size : Int) - 16).toNat s.size = tailB s := by rw [tailB]; exact congrArg (fun i => s.extract i s.size) (by omega)
      have z1 : (bodyB s).size = s.size - 16 := by rw [bodyB, ByteArray.size_extract]; omega
      have z2 : (tailB s).size = 16 := by rw [tailB, ByteArray.size_extract]; omega
      have z3 := sumSz key nonce (bodyB s) more
      have hlt : decide ((s.size : Int) - 16 < 0) = false := decide_eq_false (by omega)
      by_cases hk : badKey key nonce = true
      · refine ⟨_, rfl, hb hk, rfl, noI, ?_⟩
        rw [aopen_vf, w, e1, e2, z1, hlt, hk]
        try rw [bc_f]
        (repeat (first | (with_reducible refine ob_true ?_) | refine ob_mk (by first | (with_reducible exact beq_self_eq_true _) | (with_reducible exact nbeq _) | (with_reducible exact nble _) | (with_reducible exact seq_rfl _) | (with_reducible assumption) | (simp only [decide_eq_true_eq, Bool.and_eq_true, beq_iff_eq, Bool.true_and, Bool.and_true, Nat.beq_eq, Nat.ble_eq, true_and, and_true, ge_iff_le, gt_iff_lt]; first | done | omega)) ?_))
        try rw [bc_t]
        exact (by repeat' (first | exact trivial | exact rfl | apply And.intro | (intro h; exact h)))
      · rw [Bool.not_eq_true] at hk
        obtain ⟨hg1, hg2⟩ := hg hk
        by_cases hq : seq (sumF key nonce (bodyB s) more) (tailB s) = true
        · refine ⟨_, rfl, hg1 hq, rfl, noI, ?_⟩
          rw [aopen_vf, w, e1, e2, z1, z2, z3, hlt, hk, hq]
          clear e1 e2 z1 z2 z3 hlt
          try rw [bc_f]
          (repeat (first | (with_reducible refine ob_true ?_) | refine ob_mk (by first | (with_reducible exact beq_self_eq_true _) | (with_reducible exact nbeq _) | (with_reducible exact nble _) | (with_reducible exact seq_rfl _) | (with_reducible assumption) | (simp only [decide_eq_true_eq, Bool.and_eq_true, beq_iff_eq, Bool.true_and, Bool.and_true, Nat.beq_eq, Nat.ble_eq, true_and, and_true, ge_iff_le, gt_iff_lt]; first | done | omega)) ?_))
          try rw [bc_f]
          (repeat (first | (with_reducible refine ob_true ?_) | refine ob_mk (by first | (with_reducible exact beq_self_eq_true _) | (with_reducible exact nbeq _) | (with_reducible exact nble _) | (with_reducible exact seq_rfl _) | (with_reducible assumption) | (simp only [decide_eq_true_eq, Bool.and_eq_true, beq_iff_eq, Bool.true_and, Bool.and_true, Nat.beq_eq, Nat.ble_eq, true_and, and_true, ge_iff_le, gt_iff_lt, Bool.not_false]; first | done | omega)) ?_))
          exact (by repeat' (first | exact trivial | exact rfl | apply And.intro | (intro h; exact h)))
        · rw [Bool.not_eq_true] at hq
          refine ⟨_, rfl, hg2 hq, rfl, noI, ?_⟩
          rw [aopen_vf, w, e1, e2, z1, z2, z3, hlt, hk, hq]
          clear e1 e2 z1 z2 z3 hlt
          try rw [bc_f]
          (repeat (first | (with_reducible refine ob_true ?_) | refine ob_mk (by first | (with_reducible exact beq_self_eq_true _) | (with_reducible exact nbeq _) | (with_reducible exact nble _) | (with_reducible exact seq_rfl _) | (with_reducible assumption) | (simp only [decide_eq_true_eq, Bool.and_eq_true, beq_iff_eq, Bool.true_and, Bool.and_true, Nat.beq_eq, Nat.ble_eq, true_and, and_true, ge_iff_le, gt_iff_lt]; first | done | omega)) ?_))
          try rw [bc_f]
          (repeat (first | (with_reducible refine ob_true ?_) | refine ob_mk (by first | (with_reducible exact beq_self_eq_true _) | (with_reducible exact nbeq _) | (with_reducible exact nble _) | (with_reducible exact seq_rfl _) | (with_reducible assumption) | (simp only [decide_eq_true_eq, Bool.and_eq_true, beq_iff_eq, Bool.true_and, Bool.and_true, Nat.beq_eq, Nat.ble_eq, true_and, and_true, ge_iff_le, gt_iff_lt, Bool.not_false]; first | done | omega)) ?_))
          exact (by repeat' (first | exact trivial | exact rfl | apply And.intro | (intro h; exact h)))
  · exact h.elim
theorem key11_ok : SpecOK Try.prog 46 key11S := by
  refine q_of mixed SpecsOK.nil Try.func46 rfl rfl fun args blks K h => ?_
  split at h
  · refine ⟨_, rfl, h, rfl, noI, ?_⟩
    rw [key11_vf, fillZF]
    simp only [ob_t]
    exact (by repeat' (first | exact trivial | exact rfl | apply And.intro | (intro h; exact h)))
  · exact h.elim
theorem nonce11_ok : SpecOK Try.prog 47 nonce11S := by
  refine q_of mixed SpecsOK.nil Try.func47 rfl rfl fun args blks K h => ?_
  split at h
  · refine ⟨_, rfl, h, rfl, noI, ?_⟩
    rw [nonce11_vf, fillZF]
    simp only [ob_t]
    exact (by repeat' (first | exact trivial | exact rfl | apply And.intro | (intro h; exact h)))
  · exact h.elim
theorem few11_ok : SpecOK Try.prog 27 few11S := by
  refine q_of mixed SpecsOK.nil Try.func27 rfl rfl fun args blks K h => ?_
  split at h
  · rename_i key nonce more s
    by_cases hm : more.size ≤ 1000
    · have e : (decide (more.size ≤ 1000) && decide (s.size ≤ 2000)) = (bif true then decide ((s.size : Int) ≤ 2000) else false) := by
        rw [decide_eq_true hm]; simp; omega
      rw [e] at h
      refine ⟨_, rfl, h, rfl, noI, ?_⟩
      rw [few11_vf]
      refine bc_mk (fun _ => (by repeat' (first | exact trivial | exact rfl | apply And.intro | (intro h; exact h)))) (fun h => ?_)
      have := of_decide_eq_false h
      exfalso; omega
    · have e : (decide (more.size ≤ 1000) && decide (s.size ≤ 2000)) = false := by rw [decide_eq_false hm]; rfl
      rw [e] at h
      refine ⟨_, rfl, h, rfl, noI, ?_⟩
      rw [few11_vf]
      refine bc_mk (fun h => ?_) (fun _ => (by repeat' (first | exact trivial | exact rfl | apply And.intro | (intro h; exact h))))
      have := of_decide_eq_true h
      exfalso; omega
  · exact h.elim
def awake11S : Spec := .q fun args blks K => match args, blks with
  | [], [] => K (.v (.bool true))
  | _, _ => False
theorem awake11_vf (K : SV → List Blk → List Nat → Prop) : vf Try.prog [(46, key11S), (47, nonce11S), (29, sealS), (31, openS)] noI Try.f28 [] [] K = K (SV.v (Value.bool true)) [] [] := by kernel_rfl
theorem awake11_ok : SpecOK Try.prog 28 awake11S := by
  have hS : SpecsOK Try.prog [(46, key11S), (47, nonce11S), (29, sealS), (31, openS)] := SpecsOK.cons key11_ok (SpecsOK.cons nonce11_ok (SpecsOK.cons seal_ok (SpecsOK.cons open_ok SpecsOK.nil)))
  refine q_of mixed hS Try.func28 rfl rfl fun args blks K h => ?_
  split at h
  · refine ⟨_, rfl, h, rfl, noI, ?_⟩
    rw [awake11_vf]
    exact ⟨rfl, ⟨rfl, rfl⟩, rfl⟩
  · exact h.elim

end Go.Proofs.Ytinmllbkdjceaaa.Sx
