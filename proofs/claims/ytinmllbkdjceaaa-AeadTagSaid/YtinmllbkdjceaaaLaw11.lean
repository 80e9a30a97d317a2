/- The statements AeadBack, AeadTag, AeadStream. No condition. -/
import Derived.Test.YtinmllbkdjceaaaSx11
import Derived.Test.YtinmllbkdjceaaaProg
import Derived.Test.YtinmllbkdjceaaaBits
import Derived.Test.YtinmllbkdjceaaaWords
import Derived.Test.YtinmllbkdjceaaaChacha1
import Derived.Test.YtinmllbkdjceaaaChacha2
import Derived.Test.YtinmllbkdjceaaaChacha3
import Derived.Test.YtinmllbkdjceaaaChacha4
import Derived.Test.YtinmllbkdjceaaaChacha5
import Derived.Test.YtinmllbkdjceaaaChacha6
import Derived.Test.YtinmllbkdjceaaaLaw09
import Derived.Test.YtinmllbkdjceaaaLaw09b
import Derived.Test.YtinmllbkdjceaaaPoly1
import Derived.Test.YtinmllbkdjceaaaPoly2
import Derived.Test.YtinmllbkdjceaaaPoly3
import Derived.Test.YtinmllbkdjceaaaPoly4
import Derived.Test.YtinmllbkdjceaaaPoly5
import Derived.Test.YtinmllbkdjceaaaPoly6
import Derived.Test.YtinmllbkdjceaaaAead1
import Derived.Test.YtinmllbkdjceaaaAead2
namespace Go.Proofs.Ytinmllbkdjceaaa.Sx
open Go Go.Proofs
set_option maxRecDepth 100000
set_option linter.unusedSimpArgs false
set_option linter.unusedVariables false

theorem back_vf (key nonce more s : ByteArray) (K : SV → List Blk → List Nat → Prop) : vf Try.prog [(28, awake11S), (27, few11S), (29, sealS), (31, openS)] (noI) Try.f13 [.agg [.v (.string key), .v (.string nonce), .v (.string more)], .v (.string s)] [] K =
  (bc (!(decide (more.size ≤ (1000 : Nat)) && decide (s.size ≤ (2000 : Nat)))) (K (SV.v (Value.bool true)) [Blk.cells true [SV.v (Value.string key), SV.v (Value.string nonce), SV.v (Value.string more)]] []) (ob (decide (s.size ≤ (10000 : Nat)) && decide (more.size ≤ (10000 : Nat))) (bc (badKey key nonce) (ob (true && decide (more.size ≤ (10000 : Nat))) (ob (decide (s.size ≤ (10000 : Nat)) && decide (more.size ≤ (10000 : Nat))) (bc (decide (s.size < (16 : Nat))) (ob (true && decide (more.size ≤ (10000 : Nat))) (bc (badKey key nonce) (K (SV.v (Value.bool true)) [Blk.cells true [SV.v (Value.string key), SV.v (Value.string nonce), SV.v (Value.string more)]] []) (K (SV.v (Value.bool true)) [Blk.cells true [SV.v (Value.string key), SV.v (Value.string nonce), SV.v (Value.string more)]] []))) (bc (badKey key nonce) (ob (true && decide (more.size ≤ (10000 : Nat))) (bc (badKey key nonce) (K (SV.v (Value.bool true)) [Blk.cells true [SV.v (Value.string key), SV.v (Value.string nonce), SV.v (Value.string more)]] []) (K (SV.v (Value.bool true)) [Blk.cells true [SV.v (Value.string key), SV.v (Value.string nonce), SV.v (Value.string more)]] []))) (bc (seq (sumF key nonce (bodyB s) more) (tailB s)) (ob (decide ((xorF key nonce (1 : Int) (bodyB s)).size ≤ (10000 : Nat)) && decide (more.size ≤ (10000 : Nat))) (bc (badKey key nonce) (K (SV.v (Value.bool false)) [Blk.cells true [SV.v (Value.string key), SV.v (Value.string nonce), SV.v (Value.string more)]] []) (bc (bif false then true else bif true then seq (sealF key nonce (xorF key nonce (1 : Int) (bodyB s)) more) s else false) (K (SV.v (Value.bool true)) [Blk.cells true [SV.v (Value.string key), SV.v (Value.string nonce), SV.v (Value.string more)]] []) (K (SV.v (Value.bool false)) [Blk.cells true [SV.v (Value.string key), SV.v (Value.string nonce), SV.v (Value.string more)]] [])))) (ob (true && decide (more.size ≤ (10000 : Nat))) (bc (badKey key nonce) (K (SV.v (Value.bool true)) [Blk.cells true [SV.v (Value.string key), SV.v (Value.string nonce), SV.v (Value.string more)]] []) (K (SV.v (Value.bool true)) [Blk.cells true [SV.v (Value.string key), SV.v (Value.string nonce), SV.v (Value.string more)]] [])))))))) (ob (decide ((sealF key nonce s more).size ≤ (10000 : Nat)) && decide (more.size ≤ (10000 : Nat))) (bc (decide ((sealF key nonce s more).size < (16 : Nat))) (K (SV.v (Value.bool false)) [Blk.cells true [SV.v (Value.string key), SV.v (Value.string nonce), SV.v (Value.string more)]] []) (bc (badKey key nonce) (K (SV.v (Value.bool false)) [Blk.cells true [SV.v (Value.string key), SV.v (Value.string nonce), SV.v (Value.string more)]] []) (bc (seq (sumF key nonce (bodyB (sealF key nonce s more)) more) (tailB (sealF key nonce s more))) (bc (bif false then true else !seq (xorF key nonce (1 : Int) (bodyB (sealF key nonce s more))) s) (K (SV.v (Value.bool false)) [Blk.cells true [SV.v (Value.string key), SV.v (Value.string nonce), SV.v (Value.string more)]] []) (bc (bif true then bif false then true else (↑(sealF key nonce s more).size : Int) != IntKind.i64.wrap ((↑s.size : Int) + (16 : Int)) else false) (K (SV.v (Value.bool false)) [Blk.cells true [SV.v (Value.string key), SV.v (Value.string nonce), SV.v (Value.string more)]] []) (ob (decide (s.size ≤ (10000 : Nat)) && decide (more.size ≤ (10000 : Nat))) (bc (decide (s.size < (16 : Nat))) (ob (true && decide (more.size ≤ (10000 : Nat))) (bc (badKey key nonce) (K (SV.v (Value.bool true)) [Blk.cells true [SV.v (Value.string key), SV.v (Value.string nonce), SV.v (Value.string more)]] []) (K (SV.v (Value.bool true)) [Blk.cells true [SV.v (Value.string key), SV.v (Value.string nonce), SV.v (Value.string more)]] []))) (bc (badKey key nonce) (ob (true && decide (more.size ≤ (10000 : Nat))) (bc (badKey key nonce) (K (SV.v (Value.bool true)) [Blk.cells true [SV.v (Value.string key), SV.v (Value.string nonce), SV.v (Value.string more)]] []) (K (SV.v (Value.bool true)) [Blk.cells true [SV.v (Value.string key), SV.v (Value.string nonce), SV.v (Value.string more)]] []))) (bc (seq (sumF key nonce (bodyB s) more) (tailB s)) (ob (decide ((xorF key nonce (1 : Int) (bodyB s)).size ≤ (10000 : Nat)) && decide (more.size ≤ (10000 : Nat))) (bc (badKey key nonce) (K (SV.v (Value.bool false)) [Blk.cells true [SV.v (Value.string key), SV.v (Value.string nonce), SV.v (Value.string more)]] []) (bc (bif false then true else bif true then seq (sealF key nonce (xorF key nonce (1 : Int) (bodyB s)) more) s else false) (K (SV.v (Value.bool true)) [Blk.cells true [SV.v (Value.string key), SV.v (Value.string nonce), SV.v (Value.string more)]] []) (K (SV.v (Value.bool false)) [Blk.cells true [SV.v (Value.string key), SV.v (Value.string nonce), SV.v (Value.string more)]] [])))) (ob (true && decide (more.size ≤ (10000 : Nat))) (bc (badKey key nonce) (K (SV.v (Value.bool true)) [Blk.cells true [SV.v (Value.string key), SV.v (Value.string nonce), SV.v (Value.string more)]] []) (K (SV.v (Value.bool true)) [Blk.cells true [SV.v (Value.string key), SV.v (Value.string nonce), SV.v (Value.string more)]] []))))))))) (K (SV.v (Value.bool false)) [Blk.cells true [SV.v (Value.string key), SV.v (Value.string nonce), SV.v (Value.string more)]] [])))))))) := by kernel_rfl
theorem seal_size (key nonce s more : ByteArray) : (sealF key nonce s more).size = s.size + 16 := by
  rw [sealF, ByteArray.size_append, xorSz, sumSz]
theorem body_app (x y : ByteArray) (h : y.size = 16) : bodyB (x ++ y) = x := by
  apply bytesL_inj
  rw [bodyB, bytesL_ext, bytesL_append, ByteArray.size_append, h, List.drop_zero, Nat.add_sub_cancel, List.take_append_of_le_length (by rw [bytesL_len]; omega), List.take_of_length_le (by rw [bytesL_len]; omega)]
theorem tail_app (x y : ByteArray) (h : y.size = 16) : tailB (x ++ y) = y := by
  apply bytesL_inj
  rw [tailB, bytesL_ext, bytesL_append, ByteArray.size_append, h, Nat.add_sub_cancel, List.take_of_length_le (by rw [List.length_append, bytesL_len, bytesL_len]; omega), List.drop_append_of_le_length (by rw [bytesL_len]; omega), List.drop_eq_nil_of_le (by rw [bytesL_len]; omega), List.nil_append]
theorem body_tail (s : ByteArray) (h : 16 ≤ s.size) : bodyB s ++ tailB s = s := by
  apply bytesL_inj
  rw [bytesL_append, bodyB, tailB, bytesL_ext, bytesL_ext, List.drop_zero, List.take_of_length_le (l := bytesL s) (i := s.size) (by rw [bytesL_len]; omega), List.take_append_drop]
theorem seal_body (key nonce s more : ByteArray) : bodyB (sealF key nonce s more) = xorF key nonce 1 s := by rw [sealF, body_app _ _ (sumSz _ _ _ _)]
theorem seal_tail (key nonce s more : ByteArray) : tailB (sealF key nonce s more) = sumF key nonce (xorF key nonce 1 s) more := by rw [sealF, tail_app _ _ (sumSz _ _ _ _)]
theorem open_seal (key nonce s more : ByteArray) (h : 16 ≤ s.size) (hq : seq (sumF key nonce (bodyB s) more) (tailB s) = true) : sealF key nonce (xorF key nonce 1 (bodyB s)) more = s := by
  rw [sealF, xor_twice, (seq_iff _ _).1 hq, body_tail s h]
def lock2S : Spec := .q fun args blks K => match args, blks with
  | [.agg [.v (.string _), .v (.string _), .v (.string _)], .v (.string _)], [] => K (.v (.bool true))
  | _, _ => False
set_option maxHeartbeats 1000000 in
theorem back_ok : SpecOK Try.prog 13 lock2S := by
  have hS : SpecsOK Try.prog [(28, awake11S), (27, few11S), (29, sealS), (31, openS)] := SpecsOK.cons awake11_ok (SpecsOK.cons few11_ok (SpecsOK.cons seal_ok (SpecsOK.cons open_ok SpecsOK.nil)))
  refine q_of mixed hS Try.func13 rfl rfl fun args blks K h => ?_
  split at h
  · rename_i key nonce more s
    refine ⟨_, rfl, h, rfl, noI, ?_⟩
    rw [back_vf]
    refine bc_mk (fun _ => (by repeat' (first | exact trivial | exact rfl | apply And.intro | (intro h; exact h)))) (fun hf => ?_)
    have hf2 : more.size ≤ 1000 ∧ s.size ≤ 2000 := by simpa using hf
    have hA : decide (s.size ≤ 10000) = true := decide_eq_true (by omega)
    have hB : decide (more.size ≤ 10000) = true := decide_eq_true (by omega)
    have zt := seal_size key nonce s more
    have hC : decide ((sealF key nonce s more).size ≤ 10000) = true := decide_eq_true (by omega)
    have hD : decide ((sealF key nonce s more).size < 16) = false := decide_eq_false (by omega)
    have hb := seal_body key nonce s more
    have htl := seal_tail key nonce s more
    have hx := xor_twice key nonce 1 s
    have hz : ((((sealF key nonce s more).size : Nat) : Int) != IntKind.i64.wrap ((s.size : Int) + 16)) = false := by
      rw [zt, wrap_i64 _ (by omega) (by omega)]; simp
    have hbx : (xorF key nonce 1 (bodyB s)).size = s.size - 16 := by rw [xorSz, bodyB, ByteArray.size_extract]; omega
    have hE : decide ((xorF key nonce 1 (bodyB s)).size ≤ 10000) = true := decide_eq_true (by omega)
    have ho := open_seal key nonce s more
    rw [hb, htl, hx, seq_rfl, seq_rfl, hC, hD, hz, hA, hB, hE]
    clear hb htl hx zt hC hD hz hA hB hE hbx hf
    generalize sealF key nonce (xorF key nonce 1 (bodyB s)) more = w at *
    generalize seq (sumF key nonce (bodyB s) more) (tailB s) = q at *
    generalize badKey key nonce = bk at *
    by_cases h16 : s.size < 16
    · rw [decide_eq_true h16]
      cases bk <;> simp only [bc_t, bc_f, ob_t, Bool.and_self, Bool.not_true, Bool.not_false, cond_true, cond_false] <;> exact (by repeat' (first | exact trivial | exact rfl | apply And.intro | (intro h; exact h)))
    · rw [decide_eq_false h16]
      cases q with
      | true =>
        rw [ho (by omega) rfl, seq_rfl]
        cases bk <;> simp only [bc_t, bc_f, ob_t, Bool.and_self, Bool.not_true, Bool.not_false, cond_true, cond_false] <;> exact (by repeat' (first | exact trivial | exact rfl | apply And.intro | (intro h; exact h)))
      | false =>
        cases bk <;> simp only [bc_t, bc_f, ob_t, Bool.and_self, Bool.not_true, Bool.not_false, cond_true, cond_false] <;> exact (by repeat' (first | exact trivial | exact rfl | apply And.intro | (intro h; exact h)))
  · exact h.elim

end Go.Proofs.Ytinmllbkdjceaaa.Sx
