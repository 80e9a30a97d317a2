/- alone(), met by the bodies of all that it calls. Printed by gen_alone.py. No condition. -/
import Derived.Test.YtpdkchpjekglaaaGreatBase
import Derived.Test.YtpdkchpjekglaaaGreatProg
import Derived.Laws.Externs
namespace Go.Proofs.YtpdkchpjekglaaaGreat.Sx
open Go
set_option maxRecDepth 100000
/-- Two texts, which comes first. -/
def cmpX : Spec := .x fun args K => match args with
  | [.v (.string a), .v (.string b)] => K (.v (.int .i64 (Go.Extern.BytealgCompare.cmp a b)))
  | _ => False
theorem cmpX_ok : SpecOK Tryz.prog 183 cmpX := by
  intro n ρ σ args us K hr h
  split at h
  · rename_i a b
    refine ⟨_, _, h, rfl, fun w => ?_⟩
    have hu : us = #[.string a, .string b] := by
      obtain ⟨x, l, h1, h2, y, m, h3, h4, h5⟩ := hr
      simp only [Rel] at h2 h4
      cases us; simp_all [RelL]
    subst hu
    rw [run_callFunc_extern Tryz.func183 (by kernel_rfl) (by kernel_rfl) (by kernel_rfl) (e := Go.Extern.BytealgCompare.compare) (by kernel_rfl)]
    rfl
  · exact h.elim
/-- A disk's text. -/
def textS : Spec := .q fun args blks K => match args, blks with
  | [.ptr 0 0], [.cells false [.slc 1 off len cp 1, .v (.int .i64 y)], .ints false .u8 l] => ob (decide (off + len ≤ l.length)) (K (.v (.string (bstr ((l.drop off).take len)))))
  | [.ptr 0 0], [.cells false [.v (.slice none 0 0), .v (.int .i64 y)]] => K (.v (.string (bstr [])))
  | _, _ => False
theorem text_vf1 (off len cp : Nat) (y : Int) (l : List Int) (K : SV → List Blk → List Nat → Prop) : (vf Tryz.prog [] noI Tryz.f136 [.ptr 0 0] [.cells false [.slc 1 off len cp 1, .v (.int .i64 y)], .ints false .u8 l] K) =
    ob (decide (off + len ≤ l.length)) (K (.v (.string (bstr ((l.drop off).take len)))) [.cells false [.slc 1 off len cp 1, .v (.int .i64 y)], .ints false .u8 l] []) := by kernel_rfl
theorem text_vf2 (y : Int) (K : SV → List Blk → List Nat → Prop) : (vf Tryz.prog [] noI Tryz.f136 [.ptr 0 0] [.cells false [.v (.slice none 0 0), .v (.int .i64 y)]] K) =
    K (.v (.string (bstr []))) [.cells false [.v (.slice none 0 0), .v (.int .i64 y)]] [] := by kernel_rfl
theorem textS_ok : SpecOK Tryz.prog 136 textS := by
  refine q_ro mixed SpecsOK.nil Tryz.func136 rfl rfl fun args blks K h => ?_
  split at h
  · rename_i off len cp y l
    rw [ob_iff] at h
    exact ⟨_, rfl, h.2, rfl, noI, by rw [text_vf1, ob_iff]; exact ⟨h.1, rfl⟩⟩
  · exact ⟨_, rfl, h, rfl, noI, by rw [text_vf2]⟩
  · exact h.elim
/- ref01.Texts -/
def a12 : Spec := inl Tryz.prog [] noI Tryz.f12
def aS12 : Specs := (12, a12) :: []
theorem a12_ok : SpecOK Tryz.prog 12 a12 := inl_ok mixed SpecsOK.nil Tryz.func12 rfl rfl
theorem aS12_ok : SpecsOK Tryz.prog aS12 := .cons a12_ok SpecsOK.nil
/- cast.Quorum -/
def a125 : Spec := inl Tryz.prog aS12 noI Tryz.f125
def aS125 : Specs := (125, a125) :: aS12
theorem a125_ok : SpecOK Tryz.prog 125 a125 := inl_ok mixed aS12_ok Tryz.func125 rfl rfl
theorem aS125_ok : SpecsOK Tryz.prog aS125 := .cons a125_ok aS12_ok
/- votes.New -/
def a96 : Spec := inl Tryz.prog aS125 noI Tryz.f96
def aS96 : Specs := (96, a96) :: aS125
theorem a96_ok : SpecOK Tryz.prog 96 a96 := inl_ok mixed aS125_ok Tryz.func96 rfl rfl
theorem aS96_ok : SpecsOK Tryz.prog aS96 := .cons a96_ok aS125_ok
/- agree.New -/
def a56 : Spec := inl Tryz.prog aS96 noI Tryz.f56
def aS56 : Specs := (56, a56) :: aS96
theorem a56_ok : SpecOK Tryz.prog 56 a56 := inl_ok mixed aS96_ok Tryz.func56 rfl rfl
theorem aS56_ok : SpecsOK Tryz.prog aS56 := .cons a56_ok aS96_ok
/- chain.New -/
def a19 : Spec := inl Tryz.prog aS56 noI Tryz.f19
def aS19 : Specs := (19, a19) :: aS56
theorem a19_ok : SpecOK Tryz.prog 19 a19 := inl_ok mixed aS56_ok Tryz.func19 rfl rfl
theorem aS19_ok : SpecsOK Tryz.prog aS19 := .cons a19_ok aS56_ok
/- follow.New -/
def a20 : Spec := inl Tryz.prog aS19 noI Tryz.f20
def aS20 : Specs := (20, a20) :: aS19
theorem a20_ok : SpecOK Tryz.prog 20 a20 := inl_ok mixed aS19_ok Tryz.func20 rfl rfl
theorem aS20_ok : SpecsOK Tryz.prog aS20 := .cons a20_ok aS19_ok
/- tree.New -/
def a57 : Spec := inl Tryz.prog aS20 noI Tryz.f57
def aS57 : Specs := (57, a57) :: aS20
theorem a57_ok : SpecOK Tryz.prog 57 a57 := inl_ok mixed aS20_ok Tryz.func57 rfl rfl
theorem aS57_ok : SpecsOK Tryz.prog aS57 := .cons a57_ok aS20_ok
/- segment.New -/
def a58 : Spec := inl Tryz.prog aS57 noI Tryz.f58
def aS58 : Specs := (58, a58) :: aS57
theorem a58_ok : SpecOK Tryz.prog 58 a58 := inl_ok mixed aS57_ok Tryz.func58 rfl rfl
theorem aS58_ok : SpecsOK Tryz.prog aS58 := .cons a58_ok aS57_ok
/- snap.New -/
def a59 : Spec := inl Tryz.prog aS58 noI Tryz.f59
def aS59 : Specs := (59, a59) :: aS58
theorem a59_ok : SpecOK Tryz.prog 59 a59 := inl_ok mixed aS58_ok Tryz.func59 rfl rfl
theorem aS59_ok : SpecsOK Tryz.prog aS59 := .cons a59_ok aS58_ok
/- kv.New -/
def a21 : Spec := inl Tryz.prog aS59 noI Tryz.f21
def aS21 : Specs := (21, a21) :: aS59
theorem a21_ok : SpecOK Tryz.prog 21 a21 := inl_ok mixed aS59_ok Tryz.func21 rfl rfl
theorem aS21_ok : SpecsOK Tryz.prog aS21 := .cons a21_ok aS59_ok
/- chain.may -/
def a60 : Spec := inl Tryz.prog aS21 noI Tryz.f60
def aS60 : Specs := (60, a60) :: aS21
theorem a60_ok : SpecOK Tryz.prog 60 a60 := inl_ok mixed aS21_ok Tryz.func60 rfl rfl
theorem aS60_ok : SpecsOK Tryz.prog aS60 := .cons a60_ok aS21_ok
/- (*chain.Chain).Want -/
def a22 : Spec := inl Tryz.prog aS60 noI Tryz.f22
def aS22 : Specs := (22, a22) :: aS60
theorem a22_ok : SpecOK Tryz.prog 22 a22 := inl_ok mixed aS60_ok Tryz.func22 rfl rfl
theorem aS22_ok : SpecsOK Tryz.prog aS22 := .cons a22_ok aS60_ok
/- (*chain.Chain).over -/
def a97 : Spec := inl Tryz.prog aS22 noI Tryz.f97
def aS97 : Specs := (97, a97) :: aS22
theorem a97_ok : SpecOK Tryz.prog 97 a97 := inl_ok mixed aS22_ok Tryz.func97 rfl rfl
theorem aS97_ok : SpecsOK Tryz.prog aS97 := .cons a97_ok aS22_ok
/- (*chain.Chain).talls -/
def a98 : Spec := inl Tryz.prog aS97 noI Tryz.f98
def aS98 : Specs := (98, a98) :: aS97
theorem a98_ok : SpecOK Tryz.prog 98 a98 := inl_ok mixed aS97_ok Tryz.func98 rfl rfl
theorem aS98_ok : SpecsOK Tryz.prog aS98 := .cons a98_ok aS97_ok
/- (*agree.Agree).hear$1 -/
def a155 : Spec := inl Tryz.prog aS98 noI Tryz.f155
def aS155 : Specs := (155, a155) :: aS98
theorem a155_ok : SpecOK Tryz.prog 155 a155 := inl_ok mixed aS98_ok Tryz.func155 rfl rfl
theorem aS155_ok : SpecsOK Tryz.prog aS155 := .cons a155_ok aS98_ok
/- agree.Leader -/
def a156 : Spec := inl Tryz.prog aS155 noI Tryz.f156
def aS156 : Specs := (156, a156) :: aS155
theorem a156_ok : SpecOK Tryz.prog 156 a156 := inl_ok mixed aS155_ok Tryz.func156 rfl rfl
theorem aS156_ok : SpecsOK Tryz.prog aS156 := .cons a156_ok aS155_ok
/- (*agree.Agree).begin -/
def a128 : Spec := inl Tryz.prog aS156 noI Tryz.f128
def aS128 : Specs := (128, a128) :: aS156
theorem a128_ok : SpecOK Tryz.prog 128 a128 := inl_ok mixed aS156_ok Tryz.func128 rfl rfl
theorem aS128_ok : SpecsOK Tryz.prog aS128 := .cons a128_ok aS156_ok
/- (*agree.Agree).Start$1 -/
def a127 : Spec := inl Tryz.prog aS128 noI Tryz.f127
def aS127 : Specs := (127, a127) :: aS128
theorem a127_ok : SpecOK Tryz.prog 127 a127 := inl_ok mixed aS128_ok Tryz.func127 rfl rfl
theorem aS127_ok : SpecsOK Tryz.prog aS127 := .cons a127_ok aS128_ok
/- (*agree.Agree).vote -/
def a165 : Spec := inl Tryz.prog aS127 noI Tryz.f165
def aS165 : Specs := (165, a165) :: aS127
theorem a165_ok : SpecOK Tryz.prog 165 a165 := inl_ok mixed aS127_ok Tryz.func165 rfl rfl
theorem aS165_ok : SpecsOK Tryz.prog aS165 := .cons a165_ok aS127_ok
/- (*agree.Agree).timeout -/
def a157 : Spec := inl Tryz.prog aS165 noI Tryz.f157
def aS157 : Specs := (157, a157) :: aS165
theorem a157_ok : SpecOK Tryz.prog 157 a157 := inl_ok mixed aS165_ok Tryz.func157 rfl rfl
theorem aS157_ok : SpecsOK Tryz.prog aS157 := .cons a157_ok aS165_ok
/- wire.CheckWord -/
def a158 : Spec := inl Tryz.prog aS157 noI Tryz.f158
def aS158 : Specs := (158, a158) :: aS157
theorem a158_ok : SpecOK Tryz.prog 158 a158 := inl_ok mixed aS157_ok Tryz.func158 rfl rfl
theorem aS158_ok : SpecsOK Tryz.prog aS158 := .cons a158_ok aS157_ok
/- (*votes.Votes).may -/
def a176 : Spec := inl Tryz.prog aS158 noI Tryz.f176
def aS176 : Specs := (176, a176) :: aS158
theorem a176_ok : SpecOK Tryz.prog 176 a176 := inl_ok mixed aS158_ok Tryz.func176 rfl rfl
theorem aS176_ok : SpecsOK Tryz.prog aS176 := .cons a176_ok aS158_ok
/- (*votes.Votes).Put -/
def a159 : Spec := inl Tryz.prog aS176 noI Tryz.f159
def aS159 : Specs := (159, a159) :: aS176
theorem a159_ok : SpecOK Tryz.prog 159 a159 := inl_ok mixed aS176_ok Tryz.func159 rfl rfl
theorem aS159_ok : SpecsOK Tryz.prog aS159 := .cons a159_ok aS176_ok
/- (*agree.Agree).counts -/
def a132 : Spec := inl Tryz.prog aS159 noI Tryz.f132
def aS132 : Specs := (132, a132) :: aS159
theorem a132_ok : SpecOK Tryz.prog 132 a132 := inl_ok mixed aS159_ok Tryz.func132 rfl rfl
theorem aS132_ok : SpecsOK Tryz.prog aS132 := .cons a132_ok aS159_ok
/- (*votes.Votes).tally -/
def a203 : Spec := inl Tryz.prog aS132 noI Tryz.f203
def aS203 : Specs := (203, a203) :: aS132
theorem a203_ok : SpecOK Tryz.prog 203 a203 := inl_ok mixed aS132_ok Tryz.func203 rfl rfl
theorem aS203_ok : SpecsOK Tryz.prog aS203 := .cons a203_ok aS132_ok
/- (*votes.Votes).Count -/
def a194 : Spec := inl Tryz.prog aS203 noI Tryz.f194
def aS194 : Specs := (194, a194) :: aS203
theorem a194_ok : SpecOK Tryz.prog 194 a194 := inl_ok mixed aS203_ok Tryz.func194 rfl rfl
theorem aS194_ok : SpecsOK Tryz.prog aS194 := .cons a194_ok aS203_ok
/- (*votes.Votes).Most -/
def a177 : Spec := inl Tryz.prog aS194 noI Tryz.f177
def aS177 : Specs := (177, a177) :: aS194
theorem a177_ok : SpecOK Tryz.prog 177 a177 := inl_ok mixed aS194_ok Tryz.func177 rfl rfl
theorem aS177_ok : SpecsOK Tryz.prog aS177 := .cons a177_ok aS194_ok
/- (*agree.Agree).most -/
def a164 : Spec := inl Tryz.prog aS177 noI Tryz.f164
def aS164 : Specs := (164, a164) :: aS177
theorem a164_ok : SpecOK Tryz.prog 164 a164 := inl_ok mixed aS177_ok Tryz.func164 rfl rfl
theorem aS164_ok : SpecsOK Tryz.prog aS164 := .cons a164_ok aS177_ok
/- (*agree.Agree).decide -/
def a160 : Spec := inl Tryz.prog aS164 noI Tryz.f160
def aS160 : Specs := (160, a160) :: aS164
theorem a160_ok : SpecOK Tryz.prog 160 a160 := inl_ok mixed aS164_ok Tryz.func160 rfl rfl
theorem aS160_ok : SpecsOK Tryz.prog aS160 := .cons a160_ok aS164_ok
/- (*votes.Votes).Ahead -/
def a161 : Spec := inl Tryz.prog aS160 noI Tryz.f161
def aS161 : Specs := (161, a161) :: aS160
theorem a161_ok : SpecOK Tryz.prog 161 a161 := inl_ok mixed aS160_ok Tryz.func161 rfl rfl
theorem aS161_ok : SpecsOK Tryz.prog aS161 := .cons a161_ok aS160_ok
/- (*agree.Agree).prevote -/
def a162 : Spec := inl Tryz.prog aS161 noI Tryz.f162
def aS162 : Specs := (162, a162) :: aS161
theorem a162_ok : SpecOK Tryz.prog 162 a162 := inl_ok mixed aS161_ok Tryz.func162 rfl rfl
theorem aS162_ok : SpecsOK Tryz.prog aS162 := .cons a162_ok aS161_ok
/- (*agree.Agree).precommit -/
def a163 : Spec := inl Tryz.prog aS162 noI Tryz.f163
def aS163 : Specs := (163, a163) :: aS162
theorem a163_ok : SpecOK Tryz.prog 163 a163 := inl_ok mixed aS162_ok Tryz.func163 rfl rfl
theorem aS163_ok : SpecsOK Tryz.prog aS163 := .cons a163_ok aS162_ok
/- (*agree.Agree).rule -/
def a133 : Spec := inl Tryz.prog aS163 noI Tryz.f133
def aS133 : Specs := (133, a133) :: aS163
theorem a133_ok : SpecOK Tryz.prog 133 a133 := inl_ok mixed aS163_ok Tryz.func133 rfl rfl
theorem aS133_ok : SpecsOK Tryz.prog aS133 := .cons a133_ok aS163_ok
/- (*agree.Agree).Take$1 -/
def a131 : Spec := inl Tryz.prog aS133 noI Tryz.f131
def aS131 : Specs := (131, a131) :: aS133
theorem a131_ok : SpecOK Tryz.prog 131 a131 := inl_ok mixed aS133_ok Tryz.func131 rfl rfl
theorem aS131_ok : SpecsOK Tryz.prog aS131 := .cons a131_ok aS133_ok
/- (*agree.Agree).hear -/
def a126 : Spec := inl Tryz.prog aS131 noI Tryz.f126
def aS126 : Specs := (126, a126) :: aS131
theorem a126_ok : SpecOK Tryz.prog 126 a126 := inl_ok mixed aS131_ok Tryz.func126 rfl rfl
theorem aS126_ok : SpecsOK Tryz.prog aS126 := .cons a126_ok aS131_ok
/- (*agree.Agree).Start -/
def a99 : Spec := inl Tryz.prog aS126 noI Tryz.f99
def aS99 : Specs := (99, a99) :: aS126
theorem a99_ok : SpecOK Tryz.prog 99 a99 := inl_ok mixed aS126_ok Tryz.func99 rfl rfl
theorem aS99_ok : SpecsOK Tryz.prog aS99 := .cons a99_ok aS126_ok
/- (*chain.Chain).begin -/
def a61 : Spec := inl Tryz.prog aS99 noI Tryz.f61
def aS61 : Specs := (61, a61) :: aS99
theorem a61_ok : SpecOK Tryz.prog 61 a61 := inl_ok mixed aS99_ok Tryz.func61 rfl rfl
theorem aS61_ok : SpecsOK Tryz.prog aS61 := .cons a61_ok aS99_ok
/- (*chain.Chain).Start -/
def a23 : Spec := inl Tryz.prog aS61 noI Tryz.f23
def aS23 : Specs := (23, a23) :: aS61
theorem a23_ok : SpecOK Tryz.prog 23 a23 := inl_ok mixed aS61_ok Tryz.func23 rfl rfl
theorem aS23_ok : SpecsOK Tryz.prog aS23 := .cons a23_ok aS61_ok
/- (*agree.Agree).Decided -/
def a101 : Spec := inl Tryz.prog aS23 noI Tryz.f101
def aS101 : Specs := (101, a101) :: aS23
theorem a101_ok : SpecOK Tryz.prog 101 a101 := inl_ok mixed aS23_ok Tryz.func101 rfl rfl
theorem aS101_ok : SpecsOK Tryz.prog aS101 := .cons a101_ok aS23_ok
/- slices.Index[[]string,string] -/
def a129 : Spec := inl Tryz.prog aS101 noI Tryz.f129
def aS129 : Specs := (129, a129) :: aS101
theorem a129_ok : SpecOK Tryz.prog 129 a129 := inl_ok mixed aS101_ok Tryz.func129 rfl rfl
theorem aS129_ok : SpecsOK Tryz.prog aS129 := .cons a129_ok aS101_ok
/- slices.Delete[[]string,string] -/
def a130 : Spec := inl Tryz.prog aS129 noI Tryz.f130
def aS130 : Specs := (130, a130) :: aS129
theorem a130_ok : SpecOK Tryz.prog 130 a130 := inl_ok mixed aS129_ok Tryz.func130 rfl rfl
theorem aS130_ok : SpecsOK Tryz.prog aS130 := .cons a130_ok aS129_ok
/- (*chain.Chain).decided -/
def a102 : Spec := inl Tryz.prog aS130 noI Tryz.f102
def aS102 : Specs := (102, a102) :: aS130
theorem a102_ok : SpecOK Tryz.prog 102 a102 := inl_ok mixed aS130_ok Tryz.func102 rfl rfl
theorem aS102_ok : SpecsOK Tryz.prog aS102 := .cons a102_ok aS130_ok
/- (*chain.Chain).word$1 -/
def a100 : Spec := inl Tryz.prog aS102 noI Tryz.f100
def aS100 : Specs := (100, a100) :: aS102
theorem a100_ok : SpecOK Tryz.prog 100 a100 := inl_ok mixed aS102_ok Tryz.func100 rfl rfl
theorem aS100_ok : SpecsOK Tryz.prog aS100 := .cons a100_ok aS102_ok
/- (*agree.Agree).Take -/
def a103 : Spec := inl Tryz.prog aS100 noI Tryz.f103
def aS103 : Specs := (103, a103) :: aS100
theorem a103_ok : SpecOK Tryz.prog 103 a103 := inl_ok mixed aS100_ok Tryz.func103 rfl rfl
theorem aS103_ok : SpecsOK Tryz.prog aS103 := .cons a103_ok aS100_ok
/- (*chain.Chain).word -/
def a62 : Spec := inlD Tryz.prog aS103 noI Tryz.f62 100 Tryz.f100
def aS62 : Specs := (62, a62) :: aS103
theorem a62_ok : SpecOK Tryz.prog 62 a62 := inlD_ok mixed aS103_ok Tryz.func62 rfl rfl Tryz.func100 rfl rfl
theorem aS62_ok : SpecsOK Tryz.prog aS62 := .cons a62_ok aS103_ok
/- (*chain.Chain).Take -/
def a24 : Spec := inl Tryz.prog aS62 noI Tryz.f24
def aS24 : Specs := (24, a24) :: aS62
theorem a24_ok : SpecOK Tryz.prog 24 a24 := inl_ok mixed aS62_ok Tryz.func24 rfl rfl
theorem aS24_ok : SpecsOK Tryz.prog aS24 := .cons a24_ok aS62_ok
/- slices.Clone[[]string,string] -/
def a49 : Spec := inl Tryz.prog aS24 noI Tryz.f49
def aS49 : Specs := (49, a49) :: aS24
theorem a49_ok : SpecOK Tryz.prog 49 a49 := inl_ok mixed aS24_ok Tryz.func49 rfl rfl
theorem aS49_ok : SpecsOK Tryz.prog aS49 := .cons a49_ok aS24_ok
/- (*chain.Chain).Log -/
def a25 : Spec := inl Tryz.prog aS49 noI Tryz.f25
def aS25 : Specs := (25, a25) :: aS49
theorem a25_ok : SpecOK Tryz.prog 25 a25 := inl_ok mixed aS49_ok Tryz.func25 rfl rfl
theorem aS25_ok : SpecsOK Tryz.prog aS25 := .cons a25_ok aS49_ok
/- (*follow.Follow).height -/
def a63 : Spec := inl Tryz.prog aS25 noI Tryz.f63
def aS63 : Specs := (63, a63) :: aS25
theorem a63_ok : SpecOK Tryz.prog 63 a63 := inl_ok mixed aS25_ok Tryz.func63 rfl rfl
theorem aS63_ok : SpecsOK Tryz.prog aS63 := .cons a63_ok aS25_ok
/- (*follow.tally[string]).add -/
def a64 : Spec := inl Tryz.prog aS63 noI Tryz.f64
def aS64 : Specs := (64, a64) :: aS63
theorem a64_ok : SpecOK Tryz.prog 64 a64 := inl_ok mixed aS63_ok Tryz.func64 rfl rfl
theorem aS64_ok : SpecsOK Tryz.prog aS64 := .cons a64_ok aS63_ok
/- (*follow.Follow).Put -/
def a26 : Spec := inl Tryz.prog aS64 noI Tryz.f26
def aS26 : Specs := (26, a26) :: aS64
theorem a26_ok : SpecOK Tryz.prog 26 a26 := inl_ok mixed aS64_ok Tryz.func26 rfl rfl
theorem aS26_ok : SpecsOK Tryz.prog aS26 := .cons a26_ok aS64_ok
/- kv.key -/
def a65 : Spec := inl Tryz.prog aS26 noI Tryz.f65
def aS65 : Specs := (65, a65) :: aS26
theorem a65_ok : SpecOK Tryz.prog 65 a65 := inl_ok mixed aS26_ok Tryz.func65 rfl rfl
theorem aS65_ok : SpecsOK Tryz.prog aS65 := .cons a65_ok aS26_ok
/- (*segment.Segments).last -/
def a105 : Spec := inl Tryz.prog aS65 noI Tryz.f105
def aS105 : Specs := (105, a105) :: aS65
theorem a105_ok : SpecOK Tryz.prog 105 a105 := inl_ok mixed aS65_ok Tryz.func105 rfl rfl
theorem aS105_ok : SpecsOK Tryz.prog aS105 := .cons a105_ok aS65_ok
/- disk.kept -/
def a166 : Spec := inl Tryz.prog aS105 noI Tryz.f166
def aS166 : Specs := (166, a166) :: aS105
theorem a166_ok : SpecOK Tryz.prog 166 a166 := inl_ok mixed aS105_ok Tryz.func166 rfl rfl
theorem aS166_ok : SpecsOK Tryz.prog aS166 := .cons a166_ok aS105_ok
/- (*disk.Disk).tear -/
def a137 : Spec := inl Tryz.prog aS166 noI Tryz.f137
def aS137 : Specs := (137, a137) :: aS166
theorem a137_ok : SpecOK Tryz.prog 137 a137 := inl_ok mixed aS166_ok Tryz.func137 rfl rfl
theorem aS137_ok : SpecsOK Tryz.prog aS137 := .cons a137_ok aS166_ok
/- (*disk.Disk).Do -/
def a106 : Spec := inl Tryz.prog aS137 noI Tryz.f106
def aS106 : Specs := (106, a106) :: aS137
theorem a106_ok : SpecOK Tryz.prog 106 a106 := inl_ok mixed aS137_ok Tryz.func106 rfl rfl
theorem aS106_ok : SpecsOK Tryz.prog aS106 := .cons a106_ok aS137_ok
/- (*segment.file).next -/
def a107 : Spec := inl Tryz.prog aS106 noI Tryz.f107
def aS107 : Specs := (107, a107) :: aS106
theorem a107_ok : SpecOK Tryz.prog 107 a107 := inl_ok mixed aS106_ok Tryz.func107 rfl rfl
theorem aS107_ok : SpecsOK Tryz.prog aS107 := .cons a107_ok aS106_ok
/- (*segment.Segments).Sync -/
def a67 : Spec := inl Tryz.prog aS107 noI Tryz.f67
def aS67 : Specs := (67, a67) :: aS107
theorem a67_ok : SpecOK Tryz.prog 67 a67 := inl_ok mixed aS107_ok Tryz.func67 rfl rfl
theorem aS67_ok : SpecsOK Tryz.prog aS67 := .cons a67_ok aS107_ok
/- (*segment.Segments).Next -/
def a71 : Spec := inl Tryz.prog aS67 noI Tryz.f71
def aS71 : Specs := (71, a71) :: aS67
theorem a71_ok : SpecOK Tryz.prog 71 a71 := inl_ok mixed aS67_ok Tryz.func71 rfl rfl
theorem aS71_ok : SpecsOK Tryz.prog aS71 := .cons a71_ok aS67_ok
/- record.four -/
def a120 : Spec := inl Tryz.prog aS71 noI Tryz.f120
def aS120 : Specs := (120, a120) :: aS71
theorem a120_ok : SpecOK Tryz.prog 120 a120 := inl_ok mixed aS71_ok Tryz.func120 rfl rfl
theorem aS120_ok : SpecsOK Tryz.prog aS120 := .cons a120_ok aS71_ok
/- record.more -/
def a121 : Spec := inl Tryz.prog aS120 noI Tryz.f121
def aS121 : Specs := (121, a121) :: aS120
theorem a121_ok : SpecOK Tryz.prog 121 a121 := inl_ok mixed aS120_ok Tryz.func121 rfl rfl
theorem aS121_ok : SpecsOK Tryz.prog aS121 := .cons a121_ok aS120_ok
/- record.Frame -/
def a85 : Spec := inl Tryz.prog aS121 noI Tryz.f85
def aS85 : Specs := (85, a85) :: aS121
theorem a85_ok : SpecOK Tryz.prog 85 a85 := inl_ok mixed aS121_ok Tryz.func85 rfl rfl
theorem aS85_ok : SpecsOK Tryz.prog aS85 := .cons a85_ok aS121_ok
/- (*disk.Disk).Text -/
def a136 : Spec := textS
def aS136 : Specs := (136, a136) :: aS85
theorem a136_ok : SpecOK Tryz.prog 136 a136 := textS_ok
theorem aS136_ok : SpecsOK Tryz.prog aS136 := .cons a136_ok aS85_ok
/- (*segment.Segments).room -/
def a134 : Spec := inl Tryz.prog aS136 noI Tryz.f134
def aS134 : Specs := (134, a134) :: aS136
theorem a134_ok : SpecOK Tryz.prog 134 a134 := inl_ok mixed aS136_ok Tryz.func134 rfl rfl
theorem aS134_ok : SpecsOK Tryz.prog aS134 := .cons a134_ok aS136_ok
/- disk.New -/
def a135 : Spec := inl Tryz.prog aS134 noI Tryz.f135
def aS135 : Specs := (135, a135) :: aS134
theorem a135_ok : SpecOK Tryz.prog 135 a135 := inl_ok mixed aS134_ok Tryz.func135 rfl rfl
theorem aS135_ok : SpecsOK Tryz.prog aS135 := .cons a135_ok aS134_ok
/- (*segment.Segments).Append -/
def a104 : Spec := inl Tryz.prog aS135 noI Tryz.f104
def aS104 : Specs := (104, a104) :: aS135
theorem a104_ok : SpecOK Tryz.prog 104 a104 := inl_ok mixed aS135_ok Tryz.func104 rfl rfl
theorem aS104_ok : SpecsOK Tryz.prog aS104 := .cons a104_ok aS135_ok
/- wire.Text -/
def a80 : Spec := inl Tryz.prog aS104 noI Tryz.f80
def aS80 : Specs := (80, a80) :: aS104
theorem a80_ok : SpecOK Tryz.prog 80 a80 := inl_ok mixed aS104_ok Tryz.func80 rfl rfl
theorem aS80_ok : SpecsOK Tryz.prog aS80 := .cons a80_ok aS104_ok
/- wire.Texts -/
def a37 : Spec := inl Tryz.prog aS80 noI Tryz.f37
def aS37 : Specs := (37, a37) :: aS80
theorem a37_ok : SpecOK Tryz.prog 37 a37 := inl_ok mixed aS80_ok Tryz.func37 rfl rfl
theorem aS37_ok : SpecsOK Tryz.prog aS37 := .cons a37_ok aS80_ok
/- (kv.put).bytes -/
def a224 : Spec := inl Tryz.prog aS37 noI Tryz.f224
def aS224 : Specs := (224, a224) :: aS37
theorem a224_ok : SpecOK Tryz.prog 224 a224 := inl_ok mixed aS37_ok Tryz.func224 rfl rfl
theorem aS224_ok : SpecsOK Tryz.prog aS224 := .cons a224_ok aS37_ok
/- (*tree.node).leaf -/
def a114 : Spec := inl Tryz.prog aS224 noI Tryz.f114
def aS114 : Specs := (114, a114) :: aS224
theorem a114_ok : SpecOK Tryz.prog 114 a114 := inl_ok mixed aS224_ok Tryz.func114 rfl rfl
theorem aS114_ok : SpecsOK Tryz.prog aS114 := .cons a114_ok aS224_ok
/- slices.Clone[[]api.Pair,api.Pair] -/
def a168 : Spec := inl Tryz.prog aS114 noI Tryz.f168
def aS168 : Specs := (168, a168) :: aS114
theorem a168_ok : SpecOK Tryz.prog 168 a168 := inl_ok mixed aS114_ok Tryz.func168 rfl rfl
theorem aS168_ok : SpecsOK Tryz.prog aS168 := .cons a168_ok aS114_ok
/- slices.Clone[[]*tree.node,*tree.node] -/
def a169 : Spec := inl Tryz.prog aS168 noI Tryz.f169
def aS169 : Specs := (169, a169) :: aS168
theorem a169_ok : SpecOK Tryz.prog 169 a169 := inl_ok mixed aS168_ok Tryz.func169 rfl rfl
theorem aS169_ok : SpecsOK Tryz.prog aS169 := .cons a169_ok aS168_ok
/- slices.Reverse[[]api.Pair,api.Pair] -/
def a204 : Spec := inl Tryz.prog aS169 noI Tryz.f204
def aS204 : Specs := (204, a204) :: aS169
theorem a204_ok : SpecOK Tryz.prog 204 a204 := inl_ok mixed aS169_ok Tryz.func204 rfl rfl
theorem aS204_ok : SpecsOK Tryz.prog aS204 := .cons a204_ok aS169_ok
/- slices.rotateLeft[api.Pair] -/
def a196 : Spec := inl Tryz.prog aS204 noI Tryz.f196
def aS196 : Specs := (196, a196) :: aS204
theorem a196_ok : SpecOK Tryz.prog 196 a196 := inl_ok mixed aS204_ok Tryz.func196 rfl rfl
theorem aS196_ok : SpecsOK Tryz.prog aS196 := .cons a196_ok aS204_ok
/- slices.rotateRight[api.Pair] -/
def a180 : Spec := inl Tryz.prog aS196 noI Tryz.f180
def aS180 : Specs := (180, a180) :: aS196
theorem a180_ok : SpecOK Tryz.prog 180 a180 := inl_ok mixed aS196_ok Tryz.func180 rfl rfl
theorem aS180_ok : SpecsOK Tryz.prog aS180 := .cons a180_ok aS196_ok
/- slices.Insert[[]api.Pair,api.Pair] -/
def a170 : Spec := inl Tryz.prog aS180 noI Tryz.f170
def aS170 : Specs := (170, a170) :: aS180
theorem a170_ok : SpecOK Tryz.prog 170 a170 := inl_ok mixed aS180_ok Tryz.func170 rfl rfl
theorem aS170_ok : SpecsOK Tryz.prog aS170 := .cons a170_ok aS180_ok
/- slices.Reverse[[]*tree.node,*tree.node] -/
def a205 : Spec := inl Tryz.prog aS170 noI Tryz.f205
def aS205 : Specs := (205, a205) :: aS170
theorem a205_ok : SpecOK Tryz.prog 205 a205 := inl_ok mixed aS170_ok Tryz.func205 rfl rfl
theorem aS205_ok : SpecsOK Tryz.prog aS205 := .cons a205_ok aS170_ok
/- slices.rotateLeft[*tree.node] -/
def a197 : Spec := inl Tryz.prog aS205 noI Tryz.f197
def aS197 : Specs := (197, a197) :: aS205
theorem a197_ok : SpecOK Tryz.prog 197 a197 := inl_ok mixed aS205_ok Tryz.func197 rfl rfl
theorem aS197_ok : SpecsOK Tryz.prog aS197 := .cons a197_ok aS205_ok
/- slices.rotateRight[*tree.node] -/
def a182 : Spec := inl Tryz.prog aS197 noI Tryz.f182
def aS182 : Specs := (182, a182) :: aS197
theorem a182_ok : SpecOK Tryz.prog 182 a182 := inl_ok mixed aS197_ok Tryz.func182 rfl rfl
theorem aS182_ok : SpecsOK Tryz.prog aS182 := .cons a182_ok aS197_ok
/- slices.Insert[[]*tree.node,*tree.node] -/
def a171 : Spec := inl Tryz.prog aS182 noI Tryz.f171
def aS171 : Specs := (171, a171) :: aS182
theorem a171_ok : SpecOK Tryz.prog 171 a171 := inl_ok mixed aS182_ok Tryz.func171 rfl rfl
theorem aS171_ok : SpecsOK Tryz.prog aS171 := .cons a171_ok aS182_ok
/- (*tree.node).split -/
def a142 : Spec := inl Tryz.prog aS171 noI Tryz.f142
def aS142 : Specs := (142, a142) :: aS171
theorem a142_ok : SpecOK Tryz.prog 142 a142 := inl_ok mixed aS171_ok Tryz.func142 rfl rfl
theorem aS142_ok : SpecsOK Tryz.prog aS142 := .cons a142_ok aS171_ok
/- internal/bytealg.abigen_runtime_cmpstring -/
def a183 : Spec := cmpX
def aS183 : Specs := (183, a183) :: aS142
theorem a183_ok : SpecOK Tryz.prog 183 a183 := cmpX_ok
theorem aS183_ok : SpecsOK Tryz.prog aS183 := .cons a183_ok aS142_ok
/- internal/bytealg.CompareString -/
def a172 : Spec := inl Tryz.prog aS183 noI Tryz.f172
def aS172 : Specs := (172, a172) :: aS183
theorem a172_ok : SpecOK Tryz.prog 172 a172 := inl_ok mixed aS183_ok Tryz.func172 rfl rfl
theorem aS172_ok : SpecsOK Tryz.prog aS172 := .cons a172_ok aS183_ok
/- strings.Compare -/
def a146 : Spec := inl Tryz.prog aS172 noI Tryz.f146
def aS146 : Specs := (146, a146) :: aS172
theorem a146_ok : SpecOK Tryz.prog 146 a146 := inl_ok mixed aS172_ok Tryz.func146 rfl rfl
theorem aS146_ok : SpecsOK Tryz.prog aS146 := .cons a146_ok aS172_ok
/- (*tree.node).find$1 -/
def a145 : Spec := inl Tryz.prog aS146 noI Tryz.f145
def aS145 : Specs := (145, a145) :: aS146
theorem a145_ok : SpecOK Tryz.prog 145 a145 := inl_ok mixed aS146_ok Tryz.func145 rfl rfl
theorem aS145_ok : SpecsOK Tryz.prog aS145 := .cons a145_ok aS146_ok
/- tree.search[api.Pair] -/
def a144 : Spec := inl Tryz.prog aS145 noI Tryz.f144
def aS144 : Specs := (144, a144) :: aS145
theorem a144_ok : SpecOK Tryz.prog 144 a144 := inl_ok mixed aS145_ok Tryz.func144 rfl rfl
theorem aS144_ok : SpecsOK Tryz.prog aS144 := .cons a144_ok aS145_ok
/- (*tree.node).find -/
def a113 : Spec := inl Tryz.prog aS144 noI Tryz.f113
def aS113 : Specs := (113, a113) :: aS144
theorem a113_ok : SpecOK Tryz.prog 113 a113 := inl_ok mixed aS144_ok Tryz.func113 rfl rfl
theorem aS113_ok : SpecsOK Tryz.prog aS113 := .cons a113_ok aS144_ok
/- (*tree.node).put -/
def a143 : Spec := inl Tryz.prog aS113 noI Tryz.f143
def aS143 : Specs := (143, a143) :: aS113
theorem a143_ok : SpecOK Tryz.prog 143 a143 := inl_ok mixed aS113_ok Tryz.func143 rfl rfl
theorem aS143_ok : SpecsOK Tryz.prog aS143 := .cons a143_ok aS113_ok
/- (*tree.Tree).Put -/
def a111 : Spec := inl Tryz.prog aS143 noI Tryz.f111
def aS111 : Specs := (111, a111) :: aS143
theorem a111_ok : SpecOK Tryz.prog 111 a111 := inl_ok mixed aS143_ok Tryz.func111 rfl rfl
theorem aS111_ok : SpecsOK Tryz.prog aS111 := .cons a111_ok aS143_ok
/- (kv.put).do -/
def a225 : Spec := inl Tryz.prog aS111 noI Tryz.f225
def aS225 : Specs := (225, a225) :: aS111
theorem a225_ok : SpecOK Tryz.prog 225 a225 := inl_ok mixed aS111_ok Tryz.func225 rfl rfl
theorem aS225_ok : SpecsOK Tryz.prog aS225 := .cons a225_ok aS111_ok
/- (*kv.Store).change -/
def a66 : Spec := inl Tryz.prog aS225 noI Tryz.f66
def aS66 : Specs := (66, a66) :: aS225
theorem a66_ok : SpecOK Tryz.prog 66 a66 := inl_ok mixed aS225_ok Tryz.func66 rfl rfl
theorem aS66_ok : SpecsOK Tryz.prog aS66 := .cons a66_ok aS225_ok
/- (*kv.Store).Put -/
def a27 : Spec := inl Tryz.prog aS66 noI Tryz.f27
def aS27 : Specs := (27, a27) :: aS66
theorem a27_ok : SpecOK Tryz.prog 27 a27 := inl_ok mixed aS66_ok Tryz.func27 rfl rfl
theorem aS27_ok : SpecsOK Tryz.prog aS27 := .cons a27_ok aS66_ok
/- (*kv.Store).Sync -/
def a28 : Spec := inl Tryz.prog aS27 noI Tryz.f28
def aS28 : Specs := (28, a28) :: aS27
theorem a28_ok : SpecOK Tryz.prog 28 a28 := inl_ok mixed aS27_ok Tryz.func28 rfl rfl
theorem aS28_ok : SpecsOK Tryz.prog aS28 := .cons a28_ok aS27_ok
/- record.number -/
def a122 : Spec := inl Tryz.prog aS28 noI Tryz.f122
def aS122 : Specs := (122, a122) :: aS28
theorem a122_ok : SpecOK Tryz.prog 122 a122 := inl_ok mixed aS28_ok Tryz.func122 rfl rfl
theorem aS122_ok : SpecsOK Tryz.prog aS122 := .cons a122_ok aS28_ok
/- record.Next -/
def a86 : Spec := inl Tryz.prog aS122 noI Tryz.f86
def aS86 : Specs := (86, a86) :: aS122
theorem a86_ok : SpecOK Tryz.prog 86 a86 := inl_ok mixed aS122_ok Tryz.func86 rfl rfl
theorem aS86_ok : SpecsOK Tryz.prog aS86 := .cons a86_ok aS122_ok
/- record.Prefix -/
def a138 : Spec := inl Tryz.prog aS86 noI Tryz.f138
def aS138 : Specs := (138, a138) :: aS86
theorem a138_ok : SpecOK Tryz.prog 138 a138 := inl_ok mixed aS86_ok Tryz.func138 rfl rfl
theorem aS138_ok : SpecsOK Tryz.prog aS138 := .cons a138_ok aS86_ok
/- (*disk.Disk).Cut -/
def a139 : Spec := inl Tryz.prog aS138 noI Tryz.f139
def aS139 : Specs := (139, a139) :: aS138
theorem a139_ok : SpecOK Tryz.prog 139 a139 := inl_ok mixed aS138_ok Tryz.func139 rfl rfl
theorem aS139_ok : SpecsOK Tryz.prog aS139 := .cons a139_ok aS138_ok
/- (*segment.file).index -/
def a108 : Spec := inl Tryz.prog aS139 noI Tryz.f108
def aS108 : Specs := (108, a108) :: aS139
theorem a108_ok : SpecOK Tryz.prog 108 a108 := inl_ok mixed aS139_ok Tryz.func108 rfl rfl
theorem aS108_ok : SpecsOK Tryz.prog aS108 := .cons a108_ok aS139_ok
/- (*segment.Segments).Crash -/
def a68 : Spec := inl Tryz.prog aS108 noI Tryz.f68
def aS68 : Specs := (68, a68) :: aS108
theorem a68_ok : SpecOK Tryz.prog 68 a68 := inl_ok mixed aS108_ok Tryz.func68 rfl rfl
theorem aS68_ok : SpecsOK Tryz.prog aS68 := .cons a68_ok aS108_ok
/- (snap.slot).words -/
def a141 : Spec := inl Tryz.prog aS68 noI Tryz.f141
def aS141 : Specs := (141, a141) :: aS68
theorem a141_ok : SpecOK Tryz.prog 141 a141 := inl_ok mixed aS68_ok Tryz.func141 rfl rfl
theorem aS141_ok : SpecsOK Tryz.prog aS141 := .cons a141_ok aS68_ok
/- record.Sum -/
def a195 : Spec := inl Tryz.prog aS141 noI Tryz.f195
def aS195 : Specs := (195, a195) :: aS141
theorem a195_ok : SpecOK Tryz.prog 195 a195 := inl_ok mixed aS141_ok Tryz.func195 rfl rfl
theorem aS195_ok : SpecsOK Tryz.prog aS195 := .cons a195_ok aS141_ok
/- (snap.slot).meant -/
def a178 : Spec := inl Tryz.prog aS195 noI Tryz.f178
def aS178 : Specs := (178, a178) :: aS195
theorem a178_ok : SpecOK Tryz.prog 178 a178 := inl_ok mixed aS195_ok Tryz.func178 rfl rfl
theorem aS178_ok : SpecsOK Tryz.prog aS178 := .cons a178_ok aS195_ok
/- (snap.slot).right -/
def a167 : Spec := inl Tryz.prog aS178 noI Tryz.f167
def aS167 : Specs := (167, a167) :: aS178
theorem a167_ok : SpecOK Tryz.prog 167 a167 := inl_ok mixed aS178_ok Tryz.func167 rfl rfl
theorem aS167_ok : SpecsOK Tryz.prog aS167 := .cons a167_ok aS178_ok
/- (*snap.Snap).told -/
def a140 : Spec := inl Tryz.prog aS167 noI Tryz.f140
def aS140 : Specs := (140, a140) :: aS167
theorem a140_ok : SpecOK Tryz.prog 140 a140 := inl_ok mixed aS167_ok Tryz.func140 rfl rfl
theorem aS140_ok : SpecsOK Tryz.prog aS140 := .cons a140_ok aS167_ok
/- (*snap.Snap).Load -/
def a109 : Spec := inl Tryz.prog aS140 noI Tryz.f109
def aS109 : Specs := (109, a109) :: aS140
theorem a109_ok : SpecOK Tryz.prog 109 a109 := inl_ok mixed aS140_ok Tryz.func109 rfl rfl
theorem aS109_ok : SpecsOK Tryz.prog aS109 := .cons a109_ok aS140_ok
/- wire.next -/
def a89 : Spec := inl Tryz.prog aS109 noI Tryz.f89
def aS89 : Specs := (89, a89) :: aS109
theorem a89_ok : SpecOK Tryz.prog 89 a89 := inl_ok mixed aS109_ok Tryz.func89 rfl rfl
theorem aS89_ok : SpecsOK Tryz.prog aS89 := .cons a89_ok aS109_ok
/- wire.Read -/
def a50 : Spec := inl Tryz.prog aS89 noI Tryz.f50
def aS50 : Specs := (50, a50) :: aS89
theorem a50_ok : SpecOK Tryz.prog 50 a50 := inl_ok mixed aS89_ok Tryz.func50 rfl rfl
theorem aS50_ok : SpecsOK Tryz.prog aS50 := .cons a50_ok aS89_ok
/- snap.Unpack -/
def a110 : Spec := inl Tryz.prog aS50 noI Tryz.f110
def aS110 : Specs := (110, a110) :: aS50
theorem a110_ok : SpecOK Tryz.prog 110 a110 := inl_ok mixed aS50_ok Tryz.func110 rfl rfl
theorem aS110_ok : SpecsOK Tryz.prog aS110 := .cons a110_ok aS50_ok
/- (*kv.Store).load -/
def a69 : Spec := inl Tryz.prog aS110 noI Tryz.f69
def aS69 : Specs := (69, a69) :: aS110
theorem a69_ok : SpecOK Tryz.prog 69 a69 := inl_ok mixed aS110_ok Tryz.func69 rfl rfl
theorem aS69_ok : SpecsOK Tryz.prog aS69 := .cons a69_ok aS110_ok
/- (*segment.Segments).First -/
def a70 : Spec := inl Tryz.prog aS69 noI Tryz.f70
def aS70 : Specs := (70, a70) :: aS69
theorem a70_ok : SpecOK Tryz.prog 70 a70 := inl_ok mixed aS69_ok Tryz.func70 rfl rfl
theorem aS70_ok : SpecsOK Tryz.prog aS70 := .cons a70_ok aS69_ok
/- (*segment.file).get -/
def a112 : Spec := inl Tryz.prog aS70 noI Tryz.f112
def aS112 : Specs := (112, a112) :: aS70
theorem a112_ok : SpecOK Tryz.prog 112 a112 := inl_ok mixed aS70_ok Tryz.func112 rfl rfl
theorem aS112_ok : SpecsOK Tryz.prog aS112 := .cons a112_ok aS70_ok
/- (*segment.Segments).Get -/
def a72 : Spec := inl Tryz.prog aS112 noI Tryz.f72
def aS72 : Specs := (72, a72) :: aS112
theorem a72_ok : SpecOK Tryz.prog 72 a72 := inl_ok mixed aS112_ok Tryz.func72 rfl rfl
theorem aS72_ok : SpecsOK Tryz.prog aS72 := .cons a72_ok aS112_ok
/- kv.read -/
def a73 : Spec := inl Tryz.prog aS72 noI Tryz.f73
def aS73 : Specs := (73, a73) :: aS72
theorem a73_ok : SpecOK Tryz.prog 73 a73 := inl_ok mixed aS72_ok Tryz.func73 rfl rfl
theorem aS73_ok : SpecsOK Tryz.prog aS73 := .cons a73_ok aS72_ok
/- (*kv.Store).Crash -/
def a29 : Spec := inl Tryz.prog aS73 noI Tryz.f29
def aS29 : Specs := (29, a29) :: aS73
theorem a29_ok : SpecOK Tryz.prog 29 a29 := inl_ok mixed aS73_ok Tryz.func29 rfl rfl
theorem aS29_ok : SpecsOK Tryz.prog aS29 := .cons a29_ok aS73_ok
/- (*tree.Tree).Get -/
def a74 : Spec := inl Tryz.prog aS29 noI Tryz.f74
def aS74 : Specs := (74, a74) :: aS29
theorem a74_ok : SpecOK Tryz.prog 74 a74 := inl_ok mixed aS29_ok Tryz.func74 rfl rfl
theorem aS74_ok : SpecsOK Tryz.prog aS74 := .cons a74_ok aS29_ok
/- (*kv.Store).Get -/
def a30 : Spec := inl Tryz.prog aS74 noI Tryz.f30
def aS30 : Specs := (30, a30) :: aS74
theorem a30_ok : SpecOK Tryz.prog 30 a30 := inl_ok mixed aS74_ok Tryz.func30 rfl rfl
theorem aS30_ok : SpecsOK Tryz.prog aS30 := .cons a30_ok aS74_ok
/- (*follow.Follow).Told -/
def a75 : Spec := inl Tryz.prog aS30 noI Tryz.f75
def aS75 : Specs := (75, a75) :: aS30
theorem a75_ok : SpecOK Tryz.prog 75 a75 := inl_ok mixed aS30_ok Tryz.func75 rfl rfl
theorem aS75_ok : SpecsOK Tryz.prog aS75 := .cons a75_ok aS30_ok
/- (*follow.Follow).Log -/
def a31 : Spec := inl Tryz.prog aS75 noI Tryz.f31
def aS31 : Specs := (31, a31) :: aS75
theorem a31_ok : SpecOK Tryz.prog 31 a31 := inl_ok mixed aS75_ok Tryz.func31 rfl rfl
theorem aS31_ok : SpecsOK Tryz.prog aS31 := .cons a31_ok aS75_ok
end Go.Proofs.YtpdkchpjekglaaaGreat.Sx
