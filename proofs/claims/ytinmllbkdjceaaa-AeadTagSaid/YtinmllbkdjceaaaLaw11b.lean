/- The statements AeadTag, AeadStream. No condition. -/
import Derived.Test.YtinmllbkdjceaaaSx11
import Derived.Test.YtinmllbkdjceaaaProg
import Derived.Test.YtinmllbkdjceaaaBits
import Derived.Test.YtinmllbkdjceaaaWords
import Derived.Test.YtinmllbkdjceaaaChacha1
import Derived.Test.YtinmllbkdjceaaaChacha2
import Derived.Test.YtinmllbkdjceaaaChacha3
import Derived.Test.YtinmllbkdjceaaaChacha4
import Derived.Test.YtinmllbkdjceaaaChacha5
import Derived.Test.YtinmllbkdjceaaaChacha6
import Derived.Test.YtinmllbkdjceaaaLaw09
import Derived.Test.YtinmllbkdjceaaaLaw09b
import Derived.Test.YtinmllbkdjceaaaPoly1
import Derived.Test.YtinmllbkdjceaaaPoly2
import Derived.Test.YtinmllbkdjceaaaPoly3
import Derived.Test.YtinmllbkdjceaaaPoly4
import Derived.Test.YtinmllbkdjceaaaPoly5
import Derived.Test.YtinmllbkdjceaaaPoly6
import Derived.Test.YtinmllbkdjceaaaAead1
import Derived.Test.YtinmllbkdjceaaaAead2
import Derived.Test.YtinmllbkdjceaaaLaw11
namespace Go.Proofs.Ytinmllbkdjceaaa.Sx
open Go Go.Proofs
set_option maxRecDepth 100000
set_option linter.unusedSimpArgs false
set_option linter.unusedVariables false

theorem tag_vf (key nonce more s : ByteArray) (at' : Int) (K : SV → List Blk → List Nat → Prop) : vf Try.prog [(28, awake11S), (27, few11S), (29, sealS), (31, openS)] (noI) Try.f14 [.agg [.v (.string key), .v (.string nonce), .v (.string more)], .v (.string s), .v (.int .i64 at')] [] K =
  (bc (!(decide (more.size ≤ (1000 : Nat)) && decide (s.size ≤ (2000 : Nat)))) (K (SV.v (Value.bool true)) [Blk.cells true [SV.v (Value.string key), SV.v (Value.string nonce), SV.v (Value.string more)]] []) (ob (decide (s.size ≤ (10000 : Nat)) && decide (more.size ≤ (10000 : Nat))) (bc (badKey key nonce) (K (SV.v (Value.bool true)) [Blk.cells true [SV.v (Value.string key), SV.v (Value.string nonce), SV.v (Value.string more)]] []) (bc (bif false then true else (↑(sealF key nonce s more).size : Int) != IntKind.i64.wrap ((↑s.size : Int) + (16 : Int))) (K (SV.v (Value.bool false)) [Blk.cells true [SV.v (Value.string key), SV.v (Value.string nonce), SV.v (Value.string more)]] []) (ob true (ob true (ob true (ob (decide ((0 : Int) ≤ IntKind.i64.wrap ((↑s.size : Int) + IntKind.i64.wrap ((IntKind.i64.wrap ((IntKind.u64.wrap at').tmod (128 : Int))).tdiv (8 : Int)))) && decide (IntKind.i64.wrap ((↑s.size : Int) + IntKind.i64.wrap ((IntKind.i64.wrap ((IntKind.u64.wrap at').tmod (128 : Int))).tdiv (8 : Int))) < (↑(sealF key nonce s more).size : Int))) (ob (decide ((0 : Nat) + (IntKind.i64.wrap ((↑s.size : Int) + IntKind.i64.wrap ((IntKind.i64.wrap ((IntKind.u64.wrap at').tmod (128 : Int))).tdiv (8 : Int)))).toNat * (1 : Nat) < (bytesL (sealF key nonce s more)).length)) (ob true (ob (decide ((0 : Int) ≤ IntKind.u64.wrap ((IntKind.i64.wrap ((IntKind.u64.wrap at').tmod (128 : Int))).tmod (8 : Int)))) (ob (decide ((0 : Int) ≤ IntKind.i64.wrap ((↑s.size : Int) + IntKind.i64.wrap ((IntKind.i64.wrap ((IntKind.u64.wrap at').tmod (128 : Int))).tdiv (8 : Int)))) && decide (IntKind.i64.wrap ((↑s.size : Int) + IntKind.i64.wrap ((IntKind.i64.wrap ((IntKind.u64.wrap at').tmod (128 : Int))).tdiv (8 : Int))) < (↑(sealF key nonce s more).size : Int))) (ob (decide ((0 : Nat) + (IntKind.i64.wrap ((↑s.size : Int) + IntKind.i64.wrap ((IntKind.i64.wrap ((IntKind.u64.wrap at').tmod (128 : Int))).tdiv (8 : Int)))).toNat * (1 : Nat) < (bytesL (sealF key nonce s more)).length)) (ob (decide ((0 : Nat) + (sealF key nonce s more).size ≤ ((bytesL (sealF key nonce s more)).set ((0 : Nat) + (IntKind.i64.wrap ((↑s.size : Int) + IntKind.i64.wrap ((IntKind.i64.wrap ((IntKind.u64.wrap at').tmod (128 : Int))).tdiv (8 : Int)))).toNat * (1 : Nat)) (ixor IntKind.u8 ((bytesL (sealF key nonce s more)).getD ((0 : Nat) + (IntKind.i64.wrap ((↑s.size : Int) + IntKind.i64.wrap ((IntKind.i64.wrap ((IntKind.u64.wrap at').tmod (128 : Int))).tdiv (8 : Int)))).toNat * (1 : Nat)) (0 : Int)) (ishl IntKind.u8 (1 : Int) (IntKind.u64.wrap ((IntKind.i64.wrap ((IntKind.u64.wrap at').tmod (128 : Int))).tmod (8 : Int)))))).length)) (ob (decide ((bstr (List.take (sealF key nonce s more).size (List.drop (0 : Nat) ((bytesL (sealF key nonce s more)).set ((0 : Nat) + (IntKind.i64.wrap ((↑s.size : Int) + IntKind.i64.wrap ((IntKind.i64.wrap ((IntKind.u64.wrap at').tmod (128 : Int))).tdiv (8 : Int)))).toNat * (1 : Nat)) (ixor IntKind.u8 ((bytesL (sealF key nonce s more)).getD ((0 : Nat) + (IntKind.i64.wrap ((↑s.size : Int) + IntKind.i64.wrap ((IntKind.i64.wrap ((IntKind.u64.wrap at').tmod (128 : Int))).tdiv (8 : Int)))).toNat * (1 : Nat)) (0 : Int)) (ishl IntKind.u8 (1 : Int) (IntKind.u64.wrap ((IntKind.i64.wrap ((IntKind.u64.wrap at').tmod (128 : Int))).tmod (8 : Int))))))))).size ≤ (10000 : Nat)) && decide (more.size ≤ (10000 : Nat))) (bc (decide ((bstr (List.take (sealF key nonce s more).size (List.drop (0 : Nat) ((bytesL (sealF key nonce s more)).set ((0 : Nat) + (IntKind.i64.wrap ((↑s.size : Int) + IntKind.i64.wrap ((IntKind.i64.wrap ((IntKind.u64.wrap at').tmod (128 : Int))).tdiv (8 : Int)))).toNat * (1 : Nat)) (ixor IntKind.u8 ((bytesL (sealF key nonce s more)).getD ((0 : Nat) + (IntKind.i64.wrap ((↑s.size : Int) + IntKind.i64.wrap ((IntKind.i64.wrap ((IntKind.u64.wrap at').tmod (128 : Int))).tdiv (8 : Int)))).toNat * (1 : Nat)) (0 : Int)) (ishl IntKind.u8 (1 : Int) (IntKind.u64.wrap ((IntKind.i64.wrap ((IntKind.u64.wrap at').tmod (128 : Int))).tmod (8 : Int))))))))).size < (16 : Nat))) (K (SV.v (Value.bool false)) [Blk.cells true [SV.v (Value.string key), SV.v (Value.string nonce), SV.v (Value.string more)], Blk.ints true IntKind.u8 ((bytesL (sealF key nonce s more)).set ((0 : Nat) + (IntKind.i64.wrap ((↑s.size : Int) + IntKind.i64.wrap ((IntKind.i64.wrap ((IntKind.u64.wrap at').tmod (128 : Int))).tdiv (8 : Int)))).toNat * (1 : Nat)) (ixor IntKind.u8 ((bytesL (sealF key nonce s more)).getD ((0 : Nat) + (IntKind.i64.wrap ((↑s.size : Int) + IntKind.i64.wrap ((IntKind.i64.wrap ((IntKind.u64.wrap at').tmod (128 : Int))).tdiv (8 : Int)))).toNat * (1 : Nat)) (0 : Int)) (ishl IntKind.u8 (1 : Int) (IntKind.u64.wrap ((IntKind.i64.wrap ((IntKind.u64.wrap at').tmod (128 : Int))).tmod (8 : Int))))))] []) (bc (badKey key nonce) (K (SV.v (Value.bool false)) [Blk.cells true [SV.v (Value.string key), SV.v (Value.string nonce), SV.v (Value.string more)], Blk.ints true IntKind.u8 ((bytesL (sealF key nonce s more)).set ((0 : Nat) + (IntKind.i64.wrap ((↑s.size : Int) + IntKind.i64.wrap ((IntKind.i64.wrap ((IntKind.u64.wrap at').tmod (128 : Int))).tdiv (8 : Int)))).toNat * (1 : Nat)) (ixor IntKind.u8 ((bytesL (sealF key nonce s more)).getD ((0 : Nat) + (IntKind.i64.wrap ((↑s.size : Int) + IntKind.i64.wrap ((IntKind.i64.wrap ((IntKind.u64.wrap at').tmod (128 : Int))).tdiv (8 : Int)))).toNat * (1 : Nat)) (0 : Int)) (ishl IntKind.u8 (1 : Int) (IntKind.u64.wrap ((IntKind.i64.wrap ((IntKind.u64.wrap at').tmod (128 : Int))).tmod (8 : Int))))))] []) (bc (seq (sumF key nonce (bodyB (bstr (List.take (sealF key nonce s more).size (List.drop (0 : Nat) ((bytesL (sealF key nonce s more)).set ((0 : Nat) + (IntKind.i64.wrap ((↑s.size : Int) + IntKind.i64.wrap ((IntKind.i64.wrap ((IntKind.u64.wrap at').tmod (128 : Int))).tdiv (8 : Int)))).toNat * (1 : Nat)) (ixor IntKind.u8 ((bytesL (sealF key nonce s more)).getD ((0 : Nat) + (IntKind.i64.wrap ((↑s.size : Int) + IntKind.i64.wrap ((IntKind.i64.wrap ((IntKind.u64.wrap at').tmod (128 : Int))).tdiv (8 : Int)))).toNat * (1 : Nat)) (0 : Int)) (ishl IntKind.u8 (1 : Int) (IntKind.u64.wrap ((IntKind.i64.wrap ((IntKind.u64.wrap at').tmod (128 : Int))).tmod (8 : Int)))))))))) more) (tailB (bstr (List.take (sealF key nonce s more).size (List.drop (0 : Nat) ((bytesL (sealF key nonce s more)).set ((0 : Nat) + (IntKind.i64.wrap ((↑s.size : Int) + IntKind.i64.wrap ((IntKind.i64.wrap ((IntKind.u64.wrap at').tmod (128 : Int))).tdiv (8 : Int)))).toNat * (1 : Nat)) (ixor IntKind.u8 ((bytesL (sealF key nonce s more)).getD ((0 : Nat) + (IntKind.i64.wrap ((↑s.size : Int) + IntKind.i64.wrap ((IntKind.i64.wrap ((IntKind.u64.wrap at').tmod (128 : Int))).tdiv (8 : Int)))).toNat * (1 : Nat)) (0 : Int)) (ishl IntKind.u8 (1 : Int) (IntKind.u64.wrap ((IntKind.i64.wrap ((IntKind.u64.wrap at').tmod (128 : Int))).tmod (8 : Int))))))))))) (K (SV.v (Value.bool false)) [Blk.cells true [SV.v (Value.string key), SV.v (Value.string nonce), SV.v (Value.string more)], Blk.ints true IntKind.u8 ((bytesL (sealF key nonce s more)).set ((0 : Nat) + (IntKind.i64.wrap ((↑s.size : Int) + IntKind.i64.wrap ((IntKind.i64.wrap ((IntKind.u64.wrap at').tmod (128 : Int))).tdiv (8 : Int)))).toNat * (1 : Nat)) (ixor IntKind.u8 ((bytesL (sealF key nonce s more)).getD ((0 : Nat) + (IntKind.i64.wrap ((↑s.size : Int) + IntKind.i64.wrap ((IntKind.i64.wrap ((IntKind.u64.wrap at').tmod (128 : Int))).tdiv (8 : Int)))).toNat * (1 : Nat)) (0 : Int)) (ishl IntKind.u8 (1 : Int) (IntKind.u64.wrap ((IntKind.i64.wrap ((IntKind.u64.wrap at').tmod (128 : Int))).tmod (8 : Int))))))] []) (K (SV.v (Value.bool true)) [Blk.cells true [SV.v (Value.string key), SV.v (Value.string nonce), SV.v (Value.string more)], Blk.ints true IntKind.u8 ((bytesL (sealF key nonce s more)).set ((0 : Nat) + (IntKind.i64.wrap ((↑s.size : Int) + IntKind.i64.wrap ((IntKind.i64.wrap ((IntKind.u64.wrap at').tmod (128 : Int))).tdiv (8 : Int)))).toNat * (1 : Nat)) (ixor IntKind.u8 ((bytesL (sealF key nonce s more)).getD ((0 : Nat) + (IntKind.i64.wrap ((↑s.size : Int) + IntKind.i64.wrap ((IntKind.i64.wrap ((IntKind.u64.wrap at').tmod (128 : Int))).tdiv (8 : Int)))).toNat * (1 : Nat)) (0 : Int)) (ishl IntKind.u8 (1 : Int) (IntKind.u64.wrap ((IntKind.i64.wrap ((IntKind.u64.wrap at').tmod (128 : Int))).tmod (8 : Int))))))] []))))))))))))))))))) := by kernel_rfl
theorem ixor_ne (x : Int) (r : Nat) (hr : r < 8) (h0 : 0 ≤ x) (h1 : x < 256) : ixor .u8 x (ishl .u8 1 (r : Int)) ≠ x := by
  obtain ⟨a, rfl⟩ := Int.eq_ofNat_of_zero_le h0
  have ha : a < 2 ^ 8 := by omega
  have hs : ishl .u8 1 (r : Int) = ((2 ^ r : Nat) : Int) := by
    rcases r with _ | _ | _ | _ | _ | _ | _ | _ | r
    all_goals first | rfl | omega
  have hr2 : 2 ^ r < 2 ^ 8 := Nat.pow_lt_pow_right (by decide) hr
  have hp : 0 < 2 ^ r := Nat.pow_pos (by decide)
  rw [hs]
  intro h
  have e1 : ixor .u8 (a : Int) ((2 ^ r : Nat) : Int) = ((a ^^^ 2 ^ r : Nat) : Int) := by
    unfold ixor
    show IntKind.u8.wrap (((BitVec.ofInt 8 (a : Int) ^^^ BitVec.ofInt 8 ((2 ^ r : Nat) : Int)).toNat : Nat) : Int) = _
    rw [BitVec.toNat_xor, BitVec.ofInt_natCast, BitVec.ofInt_natCast, BitVec.toNat_ofNat, BitVec.toNat_ofNat, Nat.mod_eq_of_lt ha, Nat.mod_eq_of_lt hr2, wrap_u8]
    have := Nat.xor_lt_two_pow ha hr2
    omega
  rw [e1] at h
  have h2 : a ^^^ 2 ^ r = a := by omega
  have h3 := congrArg (a ^^^ ·) h2
  simp only [← Nat.xor_assoc, Nat.xor_self, Nat.zero_xor] at h3
  omega
/-- A text in whose last 16 bytes one is another. -/
theorem turned (T : ByteArray) (L : List Int) (hL : bytesL T = L) (n j : Nat) (v : Int) (hn : T.size = n + 16) (h1 : n ≤ j) (h2 : j < n + 16) (hv : 0 ≤ v ∧ v < 256) (hne : v ≠ L.getD j 0) :
    bodyB (bstr (L.set j v)) = bodyB T ∧ tailB (bstr (L.set j v)) ≠ tailB T ∧ (bstr (L.set j v)).size = n + 16 := by
  have hl : L.length = n + 16 := by rw [← hL, bytesL_len, hn]
  have hz : (bstr (L.set j v)).size = n + 16 := by rw [bstr_size, List.length_set, hl]
  have hb : bytesL (bstr (L.set j v)) = L.set j v := by
    refine bytesL_bstr fun x hx => ?_
    rcases List.mem_or_eq_of_mem_set hx with h | rfl
    · rw [← hL] at h; exact bytesL_range x h
    · exact hv
  refine ⟨?_, ?_, hz⟩
  · apply bytesL_inj
    rw [bodyB, bodyB, bytesL_ext, bytesL_ext, hb, hz, hn, hL, Nat.add_sub_cancel, List.drop_zero, List.drop_zero, List.take_set_of_le (by omega)]
  · intro h
    have h3 := congrArg bytesL h
    rw [tailB, tailB, bytesL_ext, bytesL_ext, hb, hz, hn, hL, Nat.add_sub_cancel, List.take_of_length_le (by rw [List.length_set]; omega), List.take_of_length_le (by omega)] at h3
    have h4 := congrArg (fun l => l[j - n]?) h3
    simp only [List.getElem?_drop, show n + (j - n) = j by omega] at h4
    rw [List.getElem?_set_self (by omega), List.getElem?_eq_getElem (by omega)] at h4
    apply hne
    rw [List.getD_eq_getElem?_getD, List.getElem?_eq_getElem (by omega)]
    exact Option.some.inj h4
def lock4S : Spec := .q fun args blks K => match args, blks with
  | [.agg [.v (.string _), .v (.string _), .v (.string _)], .v (.string _), .v (.int .i64 _)], [] => K (.v (.bool true))
  | _, _ => False
set_option maxHeartbeats 1000000 in
theorem tag_ok : SpecOK Try.prog 14 lock4S := by
  have hS : SpecsOK Try.prog [(28, awake11S), (27, few11S), (29, sealS), (31, openS)] := SpecsOK.cons awake11_ok (SpecsOK.cons few11_ok (SpecsOK.cons seal_ok (SpecsOK.cons open_ok SpecsOK.nil)))
  refine q_of mixed hS Try.func14 rfl rfl fun args blks K h => ?_
  split at h
  · rename_i key nonce more s at'
    refine ⟨_, rfl, h, rfl, noI, ?_⟩
    rw [tag_vf]
    refine bc_mk (fun _ => (by repeat' (first | exact trivial | exact rfl | apply And.intro | (intro h; exact h)))) (fun hf => ?_)
    have hf2 : more.size ≤ 1000 ∧ s.size ≤ 2000 := by simpa using hf
    obtain ⟨q, hq, hq2⟩ : ∃ q : Nat, (IntKind.u64.wrap at').tmod 128 = (q : Int) ∧ q < 128 := by
      rw [wrap_u64, Int.tmod_eq_emod_of_nonneg (by omega)]
      exact ⟨(at' % 18446744073709551616 % 128).toNat, by omega, by omega⟩
    have d1 : IntKind.i64.wrap (q : Int) = (q : Int) := by rw [wrap_i64 _ (by omega) (by omega)]
    have d2 : IntKind.i64.wrap ((q : Int).tdiv 8) = ((q / 8 : Nat) : Int) := by
      rw [show (q : Int).tdiv 8 = ((q / 8 : Nat) : Int) from rfl, wrap_i64 _ (by omega) (by omega)]
    have d3 : IntKind.i64.wrap ((s.size : Int) + ((q / 8 : Nat) : Int)) = ((s.size + q / 8 : Nat) : Int) := by rw [wrap_i64 _ (by omega) (by omega)]; omega
    have d4 : IntKind.u64.wrap ((q : Int).tmod 8) = ((q % 8 : Nat) : Int) := by
      rw [show (q : Int).tmod 8 = ((q % 8 : Nat) : Int) from rfl, wrap_u64' _ (by omega) (by omega)]
    have e1 : 0 + (((s.size + q / 8 : Nat) : Int)).toNat * 1 = s.size + q / 8 := by omega
    have w : IntKind.i64.wrap ((s.size : Int) + 16) = ((s.size + 16 : Nat) : Int) := by rw [wrap_i64 _ (by omega) (by omega)]; omega
    have z1 := seal_size key nonce s more
    have hb := seal_body key nonce s more
    have htl := seal_tail key nonce s more
    have hr := ixor_ne ((bytesL (sealF key nonce s more)).getD (s.size + q / 8) 0) (q % 8) (by omega) (okB_get (okB_bytes _) _).1 (okB_get (okB_bytes _) _).2
    have ht := turned (sealF key nonce s more) _ rfl s.size (s.size + q / 8) _ z1 (by omega) (by omega) (ixor_range ((bytesL (sealF key nonce s more)).getD (s.size + q / 8) 0) (ishl .u8 1 ((q % 8 : Nat) : Int))) hr
    have hl := (bytesL_len (sealF key nonce s more)).trans z1
    rw [hq, d1, d2, d3, d4, e1, w, z1, List.drop_zero]
    clear d1 d2 d3 d4 e1 w hr
    generalize ixor IntKind.u8 ((bytesL (sealF key nonce s more)).getD (s.size + q / 8) 0) (ishl .u8 1 ((q % 8 : Nat) : Int)) = v at *
    generalize hLL : (bytesL (sealF key nonce s more)).set (s.size + q / 8) v = L at *
    have hll : L.length = s.size + 16 := by rw [← hLL, List.length_set, hl]
    have htake : List.take (s.size + 16) L = L := List.take_of_length_le (by omega)
    rw [htake]
    obtain ⟨t1, t2, t3⟩ := ht
    rw [hb] at t1
    rw [htl] at t2
    have hseq : seq (sumF key nonce (xorF key nonce 1 s) more) (tailB (bstr L)) = false := by
      rw [Bool.eq_false_iff]
      intro h
      exact t2 ((seq_iff _ _).1 h).symm
    rw [t1, t3, hseq, bne_self_eq_false]
    generalize bstr L = X at *
    have hA : decide (s.size ≤ 10000) = true := decide_eq_true (by omega)
    have hB : decide (more.size ≤ 10000) = true := decide_eq_true (by omega)
    have hC : decide (s.size + 16 ≤ 10000) = true := decide_eq_true (by omega)
    have hD : decide (s.size + 16 < 16) = false := decide_eq_false (by omega)
    have hj1 : decide ((0 : Int) ≤ ((s.size + q / 8 : Nat) : Int)) = true := decide_eq_true (by omega)
    have hj2 : decide (((s.size + q / 8 : Nat) : Int) < ((s.size + 16 : Nat) : Int)) = true := decide_eq_true (by omega)
    have hj3 : decide (s.size + q / 8 < (bytesL (sealF key nonce s more)).length) = true := decide_eq_true (by omega)
    have hj4 : decide ((0 : Int) ≤ ((q % 8 : Nat) : Int)) = true := decide_eq_true (by omega)
    have hj5 : decide (0 + (s.size + 16) ≤ L.length) = true := decide_eq_true (by omega)
    rw [hA, hB]
    cases hk : badKey key nonce
    · simp only [bc_f, bc_t, ob_t, Bool.and_self, cond_false, cond_true, hC, hD, hj1, hj2, hj3, hj4, hj5, Bool.not_false, Bool.not_true]
      exact (by repeat' (first | exact trivial | exact rfl | apply And.intro | (intro h; exact h)))
    · simp only [bc_f, bc_t, ob_t, Bool.and_self]
      exact (by repeat' (first | exact trivial | exact rfl | apply And.intro | (intro h; exact h)))
  · exact h.elim

end Go.Proofs.Ytinmllbkdjceaaa.Sx
