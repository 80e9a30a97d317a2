/- The statement AeadStream. No condition. -/
import Derived.Test.YtinmllbkdjceaaaSx11
import Derived.Test.YtinmllbkdjceaaaProg
import Derived.Test.YtinmllbkdjceaaaBits
import Derived.Test.YtinmllbkdjceaaaWords
import Derived.Test.YtinmllbkdjceaaaChacha1
import Derived.Test.YtinmllbkdjceaaaChacha2
import Derived.Test.YtinmllbkdjceaaaChacha3
import Derived.Test.YtinmllbkdjceaaaChacha4
import Derived.Test.YtinmllbkdjceaaaChacha5
import Derived.Test.YtinmllbkdjceaaaChacha6
import Derived.Test.YtinmllbkdjceaaaLaw09
import Derived.Test.YtinmllbkdjceaaaLaw09b
import Derived.Test.YtinmllbkdjceaaaPoly1
import Derived.Test.YtinmllbkdjceaaaPoly2
import Derived.Test.YtinmllbkdjceaaaPoly3
import Derived.Test.YtinmllbkdjceaaaPoly4
import Derived.Test.YtinmllbkdjceaaaPoly5
import Derived.Test.YtinmllbkdjceaaaPoly6
import Derived.Test.YtinmllbkdjceaaaAead1
import Derived.Test.YtinmllbkdjceaaaAead2
import Derived.Test.YtinmllbkdjceaaaLaw11
namespace Go.Proofs.Ytinmllbkdjceaaa.Sx
open Go Go.Proofs
set_option maxRecDepth 100000
set_option linter.unusedSimpArgs false
set_option linter.unusedVariables false

theorem strm_vf (key nonce more s t : ByteArray) (K : SV → List Blk → List Nat → Prop) : vf Try.prog [(28, awake11S), (27, few11S), (29, sealS)] (fun _ st => .inv s.size fun k => { st with env := (11, inat k) :: keep st.env [0, 1, 2, 3, 4, 5, 6, 7, 8, 9, 10] }) Try.f15 [.agg [.v (.string key), .v (.string nonce), .v (.string more)], .v (.string s), .v (.string t)] [] K =
  (bc (!(decide (more.size ≤ (1000 : Nat)) && decide (s.size ≤ (2000 : Nat)))) (K (SV.v (Value.bool true)) [Blk.cells true [SV.v (Value.string key), SV.v (Value.string nonce), SV.v (Value.string more)]] []) (bc (bif false then true else (↑t.size : Int) != (↑s.size : Int)) (K (SV.v (Value.bool true)) [Blk.cells true [SV.v (Value.string key), SV.v (Value.string nonce), SV.v (Value.string more)]] []) (ob (decide (s.size ≤ (10000 : Nat)) && decide (more.size ≤ (10000 : Nat))) (bc (badKey key nonce) (ob (decide (t.size ≤ (10000 : Nat)) && true) (bc (badKey key nonce) (K (SV.v (Value.bool true)) [Blk.cells true [SV.v (Value.string key), SV.v (Value.string nonce), SV.v (Value.string more)]] []) (K (SV.v (Value.bool false)) [Blk.cells true [SV.v (Value.string key), SV.v (Value.string nonce), SV.v (Value.string more)]] []))) (ob (decide (t.size ≤ (10000 : Nat)) && true) (bc (badKey key nonce) (K (SV.v (Value.bool false)) [Blk.cells true [SV.v (Value.string key), SV.v (Value.string nonce), SV.v (Value.string more)]] []) (bc (bif false then true else (↑(sealF key nonce s more).size : Int) != IntKind.i64.wrap ((↑s.size : Int) + (16 : Int))) (K (SV.v (Value.bool false)) [Blk.cells true [SV.v (Value.string key), SV.v (Value.string nonce), SV.v (Value.string more)]] []) (bc (bif false then true else (↑(sealF key nonce t { data := { toList := [] } }).size : Int) != IntKind.i64.wrap ((↑s.size : Int) + (16 : Int))) (K (SV.v (Value.bool false)) [Blk.cells true [SV.v (Value.string key), SV.v (Value.string nonce), SV.v (Value.string more)]] []) (ob true (ob (seq key key) (ob (seq nonce nonce) (ob (seq more more) (ob (seq s s) (ob (seq t t) (ob true (ob true (ob true (ob (seq (sealF key nonce s more) (sealF key nonce s more)) (ob true (ob (seq (sealF key nonce t { data := { toList := [] } }) (sealF key nonce t { data := { toList := [] } })) (ob true (ob true (ob (seq key key) (ob (seq nonce nonce) (ob (seq more more) (∀ (k : Nat), k ≤ s.size → bc (decide ((↑k : Int) < (↑s.size : Int))) (ob (true && decide ((↑k : Int) < (↑(sealF key nonce s more).size : Int))) (ob (true && decide ((↑k : Int) < (↑(sealF key nonce t { data := { toList := [] } }).size : Int))) (ob (true && decide ((↑k : Int) < (↑s.size : Int))) (ob (true && decide ((↑k : Int) < (↑t.size : Int))) (bc (ixor IntKind.u8 (bt (sealF key nonce s more) (↑k : Int)) (bt (sealF key nonce t { data := { toList := [] } }) (↑k : Int)) != ixor IntKind.u8 (bt s (↑k : Int)) (bt t (↑k : Int))) (K (SV.v (Value.bool false)) [Blk.cells true [SV.v (Value.string key), SV.v (Value.string nonce), SV.v (Value.string more)]] []) (k < s.size ∧ ob (IntKind.i64.wrap ((↑k : Int) + (1 : Int)) == (↑(k + (1 : Nat)) : Int)) (ob (seq key key) (ob (seq nonce nonce) (ob (seq more more) (ob (seq s s) (ob (seq t t) (ob true (ob true (ob true (ob (seq (sealF key nonce s more) (sealF key nonce s more)) (ob true (ob (seq (sealF key nonce t { data := { toList := [] } }) (sealF key nonce t { data := { toList := [] } })) (ob true (ob true (ob (seq key key) (ob (seq nonce nonce) (ob (seq more more) True)))))))))))))))))))))) (K (SV.v (Value.bool true)) [Blk.cells true [SV.v (Value.string key), SV.v (Value.string nonce), SV.v (Value.string more)]] []))))))))))))))))))))))))))) := by kernel_rfl
theorem bt_app (x y : ByteArray) (k : Nat) (h : k < x.size) : bt (x ++ y) k = bt x k := by
  rw [bt_bytesL, bt_bytesL, bytesL_append, List.getD_eq_getElem?_getD, List.getD_eq_getElem?_getD, List.getElem?_append_left (by rw [bytesL_len]; exact h)]
theorem bt_xor (key nonce : ByteArray) (n : Int) (s : ByteArray) (k : Nat) (h : k < s.size) : bt (xorF key nonce n s) k = ixor .u8 (bt s k) (ksF (initF key nonce n) k) := by
  rw [bt_bytesL, bt_bytesL, bytesL_xorF, List.getD_eq_getElem?_getD, List.getD_eq_getElem?_getD, List.getElem?_mapIdx, List.getElem?_eq_getElem (by rw [bytesL_len]; exact h)]
  rfl
theorem ixor_cancel (x y z : Int) : ixor .u8 (ixor .u8 x z) (ixor .u8 y z) = ixor .u8 x y := by
  have e : ∀ v : BitVec 8, BitVec.ofInt 8 ((v.toNat : Int) % 256) = v := fun v => by
    apply BitVec.eq_of_toNat_eq
    have := v.isLt
    rw [BitVec.toNat_ofInt]
    omega
  unfold ixor
  rw [wrap_u8, wrap_u8, wrap_u8, wrap_u8]
  show ((BitVec.ofInt 8 ((((BitVec.ofInt 8 x ^^^ BitVec.ofInt 8 z).toNat : Nat) : Int) % 256) ^^^ BitVec.ofInt 8 ((((BitVec.ofInt 8 y ^^^ BitVec.ofInt 8 z).toNat : Nat) : Int) % 256)).toNat : Int) % 256 = ((BitVec.ofInt 8 x ^^^ BitVec.ofInt 8 y).toNat : Int) % 256
  rw [e, e]
  have h : ∀ a b c : BitVec 8, (a ^^^ c) ^^^ (b ^^^ c) = a ^^^ b := fun a b c => by
    rw [BitVec.xor_comm b c, BitVec.xor_assoc, ← BitVec.xor_assoc c c b, BitVec.xor_self, BitVec.zero_xor]
  rw [h]
theorem strm_word (key nonce more s t : ByteArray) (h : t.size = s.size) (k : Nat) (hk : k < s.size) : ixor IntKind.u8 (bt (sealF key nonce s more) k) (bt (sealF key nonce t { data := { toList := [] } }) k) = ixor IntKind.u8 (bt s k) (bt t k) := by
  rw [sealF, sealF, bt_app _ _ _ (by rw [xorSz]; exact hk), bt_app _ _ _ (by rw [xorSz, h]; exact hk), bt_xor _ _ _ _ _ hk, bt_xor _ _ _ _ _ (by rw [h]; exact hk), ixor_cancel]
def lock3S : Spec := .q fun args blks K => match args, blks with
  | [.agg [.v (.string _), .v (.string _), .v (.string _)], .v (.string _), .v (.string _)], [] => K (.v (.bool true))
  | _, _ => False
set_option maxHeartbeats 1000000 in
theorem strm_ok : SpecOK Try.prog 15 lock3S := by
  have hS : SpecsOK Try.prog [(28, awake11S), (27, few11S), (29, sealS)] := SpecsOK.cons awake11_ok (SpecsOK.cons few11_ok (SpecsOK.cons seal_ok SpecsOK.nil))
  refine q_of mixed hS Try.func15 rfl rfl fun args blks K h => ?_
  split at h
  · rename_i key nonce more s t
    refine ⟨_, rfl, h, rfl, (fun _ st => .inv s.size fun k => { st with env := (11, inat k) :: keep st.env [0, 1, 2, 3, 4, 5, 6, 7, 8, 9, 10] }), ?_⟩
    rw [strm_vf]
    refine bc_mk (fun _ => (by repeat' (first | exact trivial | exact rfl | apply And.intro | (intro h; exact h)))) (fun hf => bc_mk (fun _ => (by repeat' (first | exact trivial | exact rfl | apply And.intro | (intro h; exact h)))) (fun hts => ?_))
    have hf2 : more.size ≤ 1000 ∧ s.size ≤ 2000 := by simpa using hf
    have hts : t.size = s.size := by simp at hts; omega
    have hA : decide (s.size ≤ 10000) = true := decide_eq_true (by omega)
    have hB : decide (more.size ≤ 10000) = true := decide_eq_true (by omega)
    have hC : decide (t.size ≤ 10000) = true := decide_eq_true (by omega)
    have z1 := seal_size key nonce s more
    have z2 := seal_size key nonce t { data := { toList := [] } }
    have w : IntKind.i64.wrap ((s.size : Int) + 16) = ((s.size + 16 : Nat) : Int) := by rw [wrap_i64 _ (by omega) (by omega)]; omega
    have hword := strm_word key nonce more s t hts
    rw [hA, hB, hC, w]
    cases hk : badKey key nonce
    · rw [z1, z2, hts, bne_self_eq_false]
      clear hA hB hC w hf z1 z2
      generalize sealF key nonce s more = a at *
      generalize sealF key nonce t { data := { toList := [] } } = b at *
      simp only [bc_f, bc_t, ob_t, Bool.and_self, cond_false, seq_rfl]
      intro k hkN
      refine bc_mk (fun hlt => ?_) (fun _ => (by repeat' (first | exact trivial | exact rfl | apply And.intro | (intro h; exact h))))
      have hlt := of_decide_eq_true hlt
      have hks : k < s.size := by omega
      have w2 : IntKind.i64.wrap ((k : Int) + 1) = ((k + 1 : Nat) : Int) := by rw [wrap_i64 _ (by omega) (by omega)]; omega
      rw [hword k hks, bne_self_eq_false, w2]
      have c1 : decide ((k : Int) < (s.size : Int)) = true := decide_eq_true hlt
      have c2 : decide ((k : Int) < ((s.size + 16 : Nat) : Int)) = true := decide_eq_true (by omega)
      rw [c1, c2]
      simp only [bc_f, ob_t, Bool.and_self, beq_self_eq_true]
      exact ⟨hks, trivial⟩
    · clear hA hB hC w hf z1 z2
      simp only [bc_f, bc_t, ob_t, Bool.and_self]
      exact (by repeat' (first | exact trivial | exact rfl | apply And.intro | (intro h; exact h)))
  · exact h.elim

end Go.Proofs.Ytinmllbkdjceaaa.Sx
