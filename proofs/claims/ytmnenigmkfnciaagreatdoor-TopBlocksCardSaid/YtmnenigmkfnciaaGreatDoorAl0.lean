/- alone(), met by the bodies of all that it calls. Printed by gen_alone.py. No condition. -/
import Derived.Test.YtmnenigmkfnciaaGreatDoorBase
import Derived.Test.YtmnenigmkfnciaaGreatDoorProg
import Derived.Laws.Externs
namespace Go.Proofs.YtmnenigmkfnciaaGreatDoor.Sx
open Go
set_option maxRecDepth 100000
/-- Two texts, which comes first. -/
def cmpX : Spec := .x fun args K => match args with
  | [.v (.string a), .v (.string b)] => K (.v (.int .i64 (Go.Extern.BytealgCompare.cmp a b)))
  | _ => False
theorem cmpX_ok : SpecOK Tryz.prog 178 cmpX := by
  intro n ρ σ args us K hr h
  split at h
  · rename_i a b
    refine ⟨_, _, h, rfl, fun w => ?_⟩
    have hu : us = #[.string a, .string b] := by
      obtain ⟨x, l, h1, h2, y, m, h3, h4, h5⟩ := hr
      simp only [Rel] at h2 h4
      cases us; simp_all [RelL]
    subst hu
    rw [run_callFunc_extern Tryz.func178 (by kernel_rfl) (by kernel_rfl) (by kernel_rfl) (e := Go.Extern.BytealgCompare.compare) (by kernel_rfl)]
    rfl
  · exact h.elim
/-- A disk's text. -/
def textS : Spec := .q fun args blks K => match args, blks with
  | [.ptr 0 0], [.cells false [.slc 1 off len cp 1, .v (.int .i64 y)], .ints false .u8 l] => ob (decide (off + len ≤ l.length)) (K (.v (.string (bstr ((l.drop off).take len)))))
  | [.ptr 0 0], [.cells false [.v (.slice none 0 0), .v (.int .i64 y)]] => K (.v (.string (bstr [])))
  | _, _ => False
theorem text_vf1 (off len cp : Nat) (y : Int) (l : List Int) (K : SV → List Blk → List Nat → Prop) : (vf Tryz.prog [] noI Tryz.f112 [.ptr 0 0] [.cells false [.slc 1 off len cp 1, .v (.int .i64 y)], .ints false .u8 l] K) =
    ob (decide (off + len ≤ l.length)) (K (.v (.string (bstr ((l.drop off).take len)))) [.cells false [.slc 1 off len cp 1, .v (.int .i64 y)], .ints false .u8 l] []) := by kernel_rfl
theorem text_vf2 (y : Int) (K : SV → List Blk → List Nat → Prop) : (vf Tryz.prog [] noI Tryz.f112 [.ptr 0 0] [.cells false [.v (.slice none 0 0), .v (.int .i64 y)]] K) =
    K (.v (.string (bstr []))) [.cells false [.v (.slice none 0 0), .v (.int .i64 y)]] [] := by kernel_rfl
theorem textS_ok : SpecOK Tryz.prog 112 textS := by
  refine q_ro mixed SpecsOK.nil Tryz.func112 rfl rfl fun args blks K h => ?_
  split at h
  · rename_i off len cp y l
    rw [ob_iff] at h
    exact ⟨_, rfl, h.2, rfl, noI, by rw [text_vf1, ob_iff]; exact ⟨h.1, rfl⟩⟩
  · exact ⟨_, rfl, h, rfl, noI, by rw [text_vf2]⟩
  · exact h.elim
/- ref01.Texts -/
def a25 : Spec := inl Tryz.prog [] noI Tryz.f25
def aS25 : Specs := (25, a25) :: []
theorem a25_ok : SpecOK Tryz.prog 25 a25 := inl_ok mixed SpecsOK.nil Tryz.func25 rfl rfl
theorem aS25_ok : SpecsOK Tryz.prog aS25 := .cons a25_ok SpecsOK.nil
/- cast.Quorum -/
def a100 : Spec := inl Tryz.prog aS25 noI Tryz.f100
def aS100 : Specs := (100, a100) :: aS25
theorem a100_ok : SpecOK Tryz.prog 100 a100 := inl_ok mixed aS25_ok Tryz.func100 rfl rfl
theorem aS100_ok : SpecsOK Tryz.prog aS100 := .cons a100_ok aS25_ok
/- votes.New -/
def a73 : Spec := inl Tryz.prog aS100 noI Tryz.f73
def aS73 : Specs := (73, a73) :: aS100
theorem a73_ok : SpecOK Tryz.prog 73 a73 := inl_ok mixed aS100_ok Tryz.func73 rfl rfl
theorem aS73_ok : SpecsOK Tryz.prog aS73 := .cons a73_ok aS100_ok
/- agree.New -/
def a38 : Spec := inl Tryz.prog aS73 noI Tryz.f38
def aS38 : Specs := (38, a38) :: aS73
theorem a38_ok : SpecOK Tryz.prog 38 a38 := inl_ok mixed aS73_ok Tryz.func38 rfl rfl
theorem aS38_ok : SpecsOK Tryz.prog aS38 := .cons a38_ok aS73_ok
/- chain.New -/
def a13 : Spec := inl Tryz.prog aS38 noI Tryz.f13
def aS13 : Specs := (13, a13) :: aS38
theorem a13_ok : SpecOK Tryz.prog 13 a13 := inl_ok mixed aS38_ok Tryz.func13 rfl rfl
theorem aS13_ok : SpecsOK Tryz.prog aS13 := .cons a13_ok aS38_ok
/- follow.New -/
def a14 : Spec := inl Tryz.prog aS13 noI Tryz.f14
def aS14 : Specs := (14, a14) :: aS13
theorem a14_ok : SpecOK Tryz.prog 14 a14 := inl_ok mixed aS13_ok Tryz.func14 rfl rfl
theorem aS14_ok : SpecsOK Tryz.prog aS14 := .cons a14_ok aS13_ok
/- tree.New -/
def a39 : Spec := inl Tryz.prog aS14 noI Tryz.f39
def aS39 : Specs := (39, a39) :: aS14
theorem a39_ok : SpecOK Tryz.prog 39 a39 := inl_ok mixed aS14_ok Tryz.func39 rfl rfl
theorem aS39_ok : SpecsOK Tryz.prog aS39 := .cons a39_ok aS14_ok
/- segment.New -/
def a40 : Spec := inl Tryz.prog aS39 noI Tryz.f40
def aS40 : Specs := (40, a40) :: aS39
theorem a40_ok : SpecOK Tryz.prog 40 a40 := inl_ok mixed aS39_ok Tryz.func40 rfl rfl
theorem aS40_ok : SpecsOK Tryz.prog aS40 := .cons a40_ok aS39_ok
/- snap.New -/
def a41 : Spec := inl Tryz.prog aS40 noI Tryz.f41
def aS41 : Specs := (41, a41) :: aS40
theorem a41_ok : SpecOK Tryz.prog 41 a41 := inl_ok mixed aS40_ok Tryz.func41 rfl rfl
theorem aS41_ok : SpecsOK Tryz.prog aS41 := .cons a41_ok aS40_ok
/- kv.New -/
def a15 : Spec := inl Tryz.prog aS41 noI Tryz.f15
def aS15 : Specs := (15, a15) :: aS41
theorem a15_ok : SpecOK Tryz.prog 15 a15 := inl_ok mixed aS41_ok Tryz.func15 rfl rfl
theorem aS15_ok : SpecsOK Tryz.prog aS15 := .cons a15_ok aS41_ok
/- chain.may -/
def a42 : Spec := inl Tryz.prog aS15 noI Tryz.f42
def aS42 : Specs := (42, a42) :: aS15
theorem a42_ok : SpecOK Tryz.prog 42 a42 := inl_ok mixed aS15_ok Tryz.func42 rfl rfl
theorem aS42_ok : SpecsOK Tryz.prog aS42 := .cons a42_ok aS15_ok
/- (*chain.Chain).Want -/
def a16 : Spec := inl Tryz.prog aS42 noI Tryz.f16
def aS16 : Specs := (16, a16) :: aS42
theorem a16_ok : SpecOK Tryz.prog 16 a16 := inl_ok mixed aS42_ok Tryz.func16 rfl rfl
theorem aS16_ok : SpecsOK Tryz.prog aS16 := .cons a16_ok aS42_ok
/- (*chain.Chain).over -/
def a74 : Spec := inl Tryz.prog aS16 noI Tryz.f74
def aS74 : Specs := (74, a74) :: aS16
theorem a74_ok : SpecOK Tryz.prog 74 a74 := inl_ok mixed aS16_ok Tryz.func74 rfl rfl
theorem aS74_ok : SpecsOK Tryz.prog aS74 := .cons a74_ok aS16_ok
/- (*chain.Chain).talls -/
def a75 : Spec := inl Tryz.prog aS74 noI Tryz.f75
def aS75 : Specs := (75, a75) :: aS74
theorem a75_ok : SpecOK Tryz.prog 75 a75 := inl_ok mixed aS74_ok Tryz.func75 rfl rfl
theorem aS75_ok : SpecsOK Tryz.prog aS75 := .cons a75_ok aS74_ok
/- (*agree.Agree).hear$1 -/
def a140 : Spec := inl Tryz.prog aS75 noI Tryz.f140
def aS140 : Specs := (140, a140) :: aS75
theorem a140_ok : SpecOK Tryz.prog 140 a140 := inl_ok mixed aS75_ok Tryz.func140 rfl rfl
theorem aS140_ok : SpecsOK Tryz.prog aS140 := .cons a140_ok aS75_ok
/- agree.Leader -/
def a141 : Spec := inl Tryz.prog aS140 noI Tryz.f141
def aS141 : Specs := (141, a141) :: aS140
theorem a141_ok : SpecOK Tryz.prog 141 a141 := inl_ok mixed aS140_ok Tryz.func141 rfl rfl
theorem aS141_ok : SpecsOK Tryz.prog aS141 := .cons a141_ok aS140_ok
/- (*agree.Agree).begin -/
def a103 : Spec := inl Tryz.prog aS141 noI Tryz.f103
def aS103 : Specs := (103, a103) :: aS141
theorem a103_ok : SpecOK Tryz.prog 103 a103 := inl_ok mixed aS141_ok Tryz.func103 rfl rfl
theorem aS103_ok : SpecsOK Tryz.prog aS103 := .cons a103_ok aS141_ok
/- (*agree.Agree).Start$1 -/
def a102 : Spec := inl Tryz.prog aS103 noI Tryz.f102
def aS102 : Specs := (102, a102) :: aS103
theorem a102_ok : SpecOK Tryz.prog 102 a102 := inl_ok mixed aS103_ok Tryz.func102 rfl rfl
theorem aS102_ok : SpecsOK Tryz.prog aS102 := .cons a102_ok aS103_ok
/- (*agree.Agree).vote -/
def a150 : Spec := inl Tryz.prog aS102 noI Tryz.f150
def aS150 : Specs := (150, a150) :: aS102
theorem a150_ok : SpecOK Tryz.prog 150 a150 := inl_ok mixed aS102_ok Tryz.func150 rfl rfl
theorem aS150_ok : SpecsOK Tryz.prog aS150 := .cons a150_ok aS102_ok
/- (*agree.Agree).timeout -/
def a142 : Spec := inl Tryz.prog aS150 noI Tryz.f142
def aS142 : Specs := (142, a142) :: aS150
theorem a142_ok : SpecOK Tryz.prog 142 a142 := inl_ok mixed aS150_ok Tryz.func142 rfl rfl
theorem aS142_ok : SpecsOK Tryz.prog aS142 := .cons a142_ok aS150_ok
/- wire.CheckWord -/
def a143 : Spec := inl Tryz.prog aS142 noI Tryz.f143
def aS143 : Specs := (143, a143) :: aS142
theorem a143_ok : SpecOK Tryz.prog 143 a143 := inl_ok mixed aS142_ok Tryz.func143 rfl rfl
theorem aS143_ok : SpecsOK Tryz.prog aS143 := .cons a143_ok aS142_ok
/- (*votes.Votes).may -/
def a171 : Spec := inl Tryz.prog aS143 noI Tryz.f171
def aS171 : Specs := (171, a171) :: aS143
theorem a171_ok : SpecOK Tryz.prog 171 a171 := inl_ok mixed aS143_ok Tryz.func171 rfl rfl
theorem aS171_ok : SpecsOK Tryz.prog aS171 := .cons a171_ok aS143_ok
/- (*votes.Votes).Put -/
def a144 : Spec := inl Tryz.prog aS171 noI Tryz.f144
def aS144 : Specs := (144, a144) :: aS171
theorem a144_ok : SpecOK Tryz.prog 144 a144 := inl_ok mixed aS171_ok Tryz.func144 rfl rfl
theorem aS144_ok : SpecsOK Tryz.prog aS144 := .cons a144_ok aS171_ok
/- (*agree.Agree).counts -/
def a107 : Spec := inl Tryz.prog aS144 noI Tryz.f107
def aS107 : Specs := (107, a107) :: aS144
theorem a107_ok : SpecOK Tryz.prog 107 a107 := inl_ok mixed aS144_ok Tryz.func107 rfl rfl
theorem aS107_ok : SpecsOK Tryz.prog aS107 := .cons a107_ok aS144_ok
/- (*votes.Votes).tally -/
def a184 : Spec := inl Tryz.prog aS107 noI Tryz.f184
def aS184 : Specs := (184, a184) :: aS107
theorem a184_ok : SpecOK Tryz.prog 184 a184 := inl_ok mixed aS107_ok Tryz.func184 rfl rfl
theorem aS184_ok : SpecsOK Tryz.prog aS184 := .cons a184_ok aS107_ok
/- (*votes.Votes).Count -/
def a180 : Spec := inl Tryz.prog aS184 noI Tryz.f180
def aS180 : Specs := (180, a180) :: aS184
theorem a180_ok : SpecOK Tryz.prog 180 a180 := inl_ok mixed aS184_ok Tryz.func180 rfl rfl
theorem aS180_ok : SpecsOK Tryz.prog aS180 := .cons a180_ok aS184_ok
/- (*votes.Votes).Most -/
def a172 : Spec := inl Tryz.prog aS180 noI Tryz.f172
def aS172 : Specs := (172, a172) :: aS180
theorem a172_ok : SpecOK Tryz.prog 172 a172 := inl_ok mixed aS180_ok Tryz.func172 rfl rfl
theorem aS172_ok : SpecsOK Tryz.prog aS172 := .cons a172_ok aS180_ok
/- (*agree.Agree).most -/
def a149 : Spec := inl Tryz.prog aS172 noI Tryz.f149
def aS149 : Specs := (149, a149) :: aS172
theorem a149_ok : SpecOK Tryz.prog 149 a149 := inl_ok mixed aS172_ok Tryz.func149 rfl rfl
theorem aS149_ok : SpecsOK Tryz.prog aS149 := .cons a149_ok aS172_ok
/- (*agree.Agree).decide -/
def a145 : Spec := inl Tryz.prog aS149 noI Tryz.f145
def aS145 : Specs := (145, a145) :: aS149
theorem a145_ok : SpecOK Tryz.prog 145 a145 := inl_ok mixed aS149_ok Tryz.func145 rfl rfl
theorem aS145_ok : SpecsOK Tryz.prog aS145 := .cons a145_ok aS149_ok
/- (*votes.Votes).Ahead -/
def a146 : Spec := inl Tryz.prog aS145 noI Tryz.f146
def aS146 : Specs := (146, a146) :: aS145
theorem a146_ok : SpecOK Tryz.prog 146 a146 := inl_ok mixed aS145_ok Tryz.func146 rfl rfl
theorem aS146_ok : SpecsOK Tryz.prog aS146 := .cons a146_ok aS145_ok
/- (*agree.Agree).prevote -/
def a147 : Spec := inl Tryz.prog aS146 noI Tryz.f147
def aS147 : Specs := (147, a147) :: aS146
theorem a147_ok : SpecOK Tryz.prog 147 a147 := inl_ok mixed aS146_ok Tryz.func147 rfl rfl
theorem aS147_ok : SpecsOK Tryz.prog aS147 := .cons a147_ok aS146_ok
/- (*agree.Agree).precommit -/
def a148 : Spec := inl Tryz.prog aS147 noI Tryz.f148
def aS148 : Specs := (148, a148) :: aS147
theorem a148_ok : SpecOK Tryz.prog 148 a148 := inl_ok mixed aS147_ok Tryz.func148 rfl rfl
theorem aS148_ok : SpecsOK Tryz.prog aS148 := .cons a148_ok aS147_ok
/- (*agree.Agree).rule -/
def a108 : Spec := inl Tryz.prog aS148 noI Tryz.f108
def aS108 : Specs := (108, a108) :: aS148
theorem a108_ok : SpecOK Tryz.prog 108 a108 := inl_ok mixed aS148_ok Tryz.func108 rfl rfl
theorem aS108_ok : SpecsOK Tryz.prog aS108 := .cons a108_ok aS148_ok
/- (*agree.Agree).Take$1 -/
def a106 : Spec := inl Tryz.prog aS108 noI Tryz.f106
def aS106 : Specs := (106, a106) :: aS108
theorem a106_ok : SpecOK Tryz.prog 106 a106 := inl_ok mixed aS108_ok Tryz.func106 rfl rfl
theorem aS106_ok : SpecsOK Tryz.prog aS106 := .cons a106_ok aS108_ok
/- (*agree.Agree).hear -/
def a101 : Spec := inl Tryz.prog aS106 noI Tryz.f101
def aS101 : Specs := (101, a101) :: aS106
theorem a101_ok : SpecOK Tryz.prog 101 a101 := inl_ok mixed aS106_ok Tryz.func101 rfl rfl
theorem aS101_ok : SpecsOK Tryz.prog aS101 := .cons a101_ok aS106_ok
/- (*agree.Agree).Start -/
def a76 : Spec := inl Tryz.prog aS101 noI Tryz.f76
def aS76 : Specs := (76, a76) :: aS101
theorem a76_ok : SpecOK Tryz.prog 76 a76 := inl_ok mixed aS101_ok Tryz.func76 rfl rfl
theorem aS76_ok : SpecsOK Tryz.prog aS76 := .cons a76_ok aS101_ok
/- (*chain.Chain).begin -/
def a43 : Spec := inl Tryz.prog aS76 noI Tryz.f43
def aS43 : Specs := (43, a43) :: aS76
theorem a43_ok : SpecOK Tryz.prog 43 a43 := inl_ok mixed aS76_ok Tryz.func43 rfl rfl
theorem aS43_ok : SpecsOK Tryz.prog aS43 := .cons a43_ok aS76_ok
/- (*chain.Chain).Start -/
def a17 : Spec := inl Tryz.prog aS43 noI Tryz.f17
def aS17 : Specs := (17, a17) :: aS43
theorem a17_ok : SpecOK Tryz.prog 17 a17 := inl_ok mixed aS43_ok Tryz.func17 rfl rfl
theorem aS17_ok : SpecsOK Tryz.prog aS17 := .cons a17_ok aS43_ok
/- (*agree.Agree).Decided -/
def a78 : Spec := inl Tryz.prog aS17 noI Tryz.f78
def aS78 : Specs := (78, a78) :: aS17
theorem a78_ok : SpecOK Tryz.prog 78 a78 := inl_ok mixed aS17_ok Tryz.func78 rfl rfl
theorem aS78_ok : SpecsOK Tryz.prog aS78 := .cons a78_ok aS17_ok
/- slices.Index[[]string,string] -/
def a104 : Spec := inl Tryz.prog aS78 noI Tryz.f104
def aS104 : Specs := (104, a104) :: aS78
theorem a104_ok : SpecOK Tryz.prog 104 a104 := inl_ok mixed aS78_ok Tryz.func104 rfl rfl
theorem aS104_ok : SpecsOK Tryz.prog aS104 := .cons a104_ok aS78_ok
/- slices.Delete[[]string,string] -/
def a105 : Spec := inl Tryz.prog aS104 noI Tryz.f105
def aS105 : Specs := (105, a105) :: aS104
theorem a105_ok : SpecOK Tryz.prog 105 a105 := inl_ok mixed aS104_ok Tryz.func105 rfl rfl
theorem aS105_ok : SpecsOK Tryz.prog aS105 := .cons a105_ok aS104_ok
/- (*chain.Chain).decided -/
def a79 : Spec := inl Tryz.prog aS105 noI Tryz.f79
def aS79 : Specs := (79, a79) :: aS105
theorem a79_ok : SpecOK Tryz.prog 79 a79 := inl_ok mixed aS105_ok Tryz.func79 rfl rfl
theorem aS79_ok : SpecsOK Tryz.prog aS79 := .cons a79_ok aS105_ok
/- (*chain.Chain).word$1 -/
def a77 : Spec := inl Tryz.prog aS79 noI Tryz.f77
def aS77 : Specs := (77, a77) :: aS79
theorem a77_ok : SpecOK Tryz.prog 77 a77 := inl_ok mixed aS79_ok Tryz.func77 rfl rfl
theorem aS77_ok : SpecsOK Tryz.prog aS77 := .cons a77_ok aS79_ok
/- (*agree.Agree).Take -/
def a80 : Spec := inl Tryz.prog aS77 noI Tryz.f80
def aS80 : Specs := (80, a80) :: aS77
theorem a80_ok : SpecOK Tryz.prog 80 a80 := inl_ok mixed aS77_ok Tryz.func80 rfl rfl
theorem aS80_ok : SpecsOK Tryz.prog aS80 := .cons a80_ok aS77_ok
/- (*chain.Chain).word -/
def a44 : Spec := inlD Tryz.prog aS80 noI Tryz.f44 77 Tryz.f77
def aS44 : Specs := (44, a44) :: aS80
theorem a44_ok : SpecOK Tryz.prog 44 a44 := inlD_ok mixed aS80_ok Tryz.func44 rfl rfl Tryz.func77 rfl rfl
theorem aS44_ok : SpecsOK Tryz.prog aS44 := .cons a44_ok aS80_ok
/- (*chain.Chain).Take -/
def a18 : Spec := inl Tryz.prog aS44 noI Tryz.f18
def aS18 : Specs := (18, a18) :: aS44
theorem a18_ok : SpecOK Tryz.prog 18 a18 := inl_ok mixed aS44_ok Tryz.func18 rfl rfl
theorem aS18_ok : SpecsOK Tryz.prog aS18 := .cons a18_ok aS44_ok
/- slices.Clone[[]string,string] -/
def a45 : Spec := inl Tryz.prog aS18 noI Tryz.f45
def aS45 : Specs := (45, a45) :: aS18
theorem a45_ok : SpecOK Tryz.prog 45 a45 := inl_ok mixed aS18_ok Tryz.func45 rfl rfl
theorem aS45_ok : SpecsOK Tryz.prog aS45 := .cons a45_ok aS18_ok
/- (*chain.Chain).Log -/
def a19 : Spec := inl Tryz.prog aS45 noI Tryz.f19
def aS19 : Specs := (19, a19) :: aS45
theorem a19_ok : SpecOK Tryz.prog 19 a19 := inl_ok mixed aS45_ok Tryz.func19 rfl rfl
theorem aS19_ok : SpecsOK Tryz.prog aS19 := .cons a19_ok aS45_ok
/- (*follow.Follow).height -/
def a46 : Spec := inl Tryz.prog aS19 noI Tryz.f46
def aS46 : Specs := (46, a46) :: aS19
theorem a46_ok : SpecOK Tryz.prog 46 a46 := inl_ok mixed aS19_ok Tryz.func46 rfl rfl
theorem aS46_ok : SpecsOK Tryz.prog aS46 := .cons a46_ok aS19_ok
/- (*follow.tally[string]).add -/
def a47 : Spec := inl Tryz.prog aS46 noI Tryz.f47
def aS47 : Specs := (47, a47) :: aS46
theorem a47_ok : SpecOK Tryz.prog 47 a47 := inl_ok mixed aS46_ok Tryz.func47 rfl rfl
theorem aS47_ok : SpecsOK Tryz.prog aS47 := .cons a47_ok aS46_ok
/- (*follow.Follow).Put -/
def a20 : Spec := inl Tryz.prog aS47 noI Tryz.f20
def aS20 : Specs := (20, a20) :: aS47
theorem a20_ok : SpecOK Tryz.prog 20 a20 := inl_ok mixed aS47_ok Tryz.func20 rfl rfl
theorem aS20_ok : SpecsOK Tryz.prog aS20 := .cons a20_ok aS47_ok
/- kv.key -/
def a48 : Spec := inl Tryz.prog aS20 noI Tryz.f48
def aS48 : Specs := (48, a48) :: aS20
theorem a48_ok : SpecOK Tryz.prog 48 a48 := inl_ok mixed aS20_ok Tryz.func48 rfl rfl
theorem aS48_ok : SpecsOK Tryz.prog aS48 := .cons a48_ok aS20_ok
/- (*segment.Segments).last -/
def a82 : Spec := inl Tryz.prog aS48 noI Tryz.f82
def aS82 : Specs := (82, a82) :: aS48
theorem a82_ok : SpecOK Tryz.prog 82 a82 := inl_ok mixed aS48_ok Tryz.func82 rfl rfl
theorem aS82_ok : SpecsOK Tryz.prog aS82 := .cons a82_ok aS48_ok
/- disk.kept -/
def a153 : Spec := inl Tryz.prog aS82 noI Tryz.f153
def aS153 : Specs := (153, a153) :: aS82
theorem a153_ok : SpecOK Tryz.prog 153 a153 := inl_ok mixed aS82_ok Tryz.func153 rfl rfl
theorem aS153_ok : SpecsOK Tryz.prog aS153 := .cons a153_ok aS82_ok
/- (*disk.Disk).tear -/
def a113 : Spec := inl Tryz.prog aS153 noI Tryz.f113
def aS113 : Specs := (113, a113) :: aS153
theorem a113_ok : SpecOK Tryz.prog 113 a113 := inl_ok mixed aS153_ok Tryz.func113 rfl rfl
theorem aS113_ok : SpecsOK Tryz.prog aS113 := .cons a113_ok aS153_ok
/- (*disk.Disk).Do -/
def a83 : Spec := inl Tryz.prog aS113 noI Tryz.f83
def aS83 : Specs := (83, a83) :: aS113
theorem a83_ok : SpecOK Tryz.prog 83 a83 := inl_ok mixed aS113_ok Tryz.func83 rfl rfl
theorem aS83_ok : SpecsOK Tryz.prog aS83 := .cons a83_ok aS113_ok
/- (*segment.file).next -/
def a84 : Spec := inl Tryz.prog aS83 noI Tryz.f84
def aS84 : Specs := (84, a84) :: aS83
theorem a84_ok : SpecOK Tryz.prog 84 a84 := inl_ok mixed aS83_ok Tryz.func84 rfl rfl
theorem aS84_ok : SpecsOK Tryz.prog aS84 := .cons a84_ok aS83_ok
/- (*segment.Segments).Sync -/
def a50 : Spec := inl Tryz.prog aS84 noI Tryz.f50
def aS50 : Specs := (50, a50) :: aS84
theorem a50_ok : SpecOK Tryz.prog 50 a50 := inl_ok mixed aS84_ok Tryz.func50 rfl rfl
theorem aS50_ok : SpecsOK Tryz.prog aS50 := .cons a50_ok aS84_ok
/- (*segment.Segments).Next -/
def a54 : Spec := inl Tryz.prog aS50 noI Tryz.f54
def aS54 : Specs := (54, a54) :: aS50
theorem a54_ok : SpecOK Tryz.prog 54 a54 := inl_ok mixed aS50_ok Tryz.func54 rfl rfl
theorem aS54_ok : SpecsOK Tryz.prog aS54 := .cons a54_ok aS50_ok
/- record.four -/
def a151 : Spec := inl Tryz.prog aS54 noI Tryz.f151
def aS151 : Specs := (151, a151) :: aS54
theorem a151_ok : SpecOK Tryz.prog 151 a151 := inl_ok mixed aS54_ok Tryz.func151 rfl rfl
theorem aS151_ok : SpecsOK Tryz.prog aS151 := .cons a151_ok aS54_ok
/- record.more -/
def a152 : Spec := inl Tryz.prog aS151 noI Tryz.f152
def aS152 : Specs := (152, a152) :: aS151
theorem a152_ok : SpecOK Tryz.prog 152 a152 := inl_ok mixed aS151_ok Tryz.func152 rfl rfl
theorem aS152_ok : SpecsOK Tryz.prog aS152 := .cons a152_ok aS151_ok
/- record.Frame -/
def a109 : Spec := inl Tryz.prog aS152 noI Tryz.f109
def aS109 : Specs := (109, a109) :: aS152
theorem a109_ok : SpecOK Tryz.prog 109 a109 := inl_ok mixed aS152_ok Tryz.func109 rfl rfl
theorem aS109_ok : SpecsOK Tryz.prog aS109 := .cons a109_ok aS152_ok
/- (*disk.Disk).Text -/
def a112 : Spec := textS
def aS112 : Specs := (112, a112) :: aS109
theorem a112_ok : SpecOK Tryz.prog 112 a112 := textS_ok
theorem aS112_ok : SpecsOK Tryz.prog aS112 := .cons a112_ok aS109_ok
/- (*segment.Segments).room -/
def a110 : Spec := inl Tryz.prog aS112 noI Tryz.f110
def aS110 : Specs := (110, a110) :: aS112
theorem a110_ok : SpecOK Tryz.prog 110 a110 := inl_ok mixed aS112_ok Tryz.func110 rfl rfl
theorem aS110_ok : SpecsOK Tryz.prog aS110 := .cons a110_ok aS112_ok
/- disk.New -/
def a111 : Spec := inl Tryz.prog aS110 noI Tryz.f111
def aS111 : Specs := (111, a111) :: aS110
theorem a111_ok : SpecOK Tryz.prog 111 a111 := inl_ok mixed aS110_ok Tryz.func111 rfl rfl
theorem aS111_ok : SpecsOK Tryz.prog aS111 := .cons a111_ok aS110_ok
/- (*segment.Segments).Append -/
def a81 : Spec := inl Tryz.prog aS111 noI Tryz.f81
def aS81 : Specs := (81, a81) :: aS111
theorem a81_ok : SpecOK Tryz.prog 81 a81 := inl_ok mixed aS111_ok Tryz.func81 rfl rfl
theorem aS81_ok : SpecsOK Tryz.prog aS81 := .cons a81_ok aS111_ok
/- wire.Text -/
def a67 : Spec := inl Tryz.prog aS81 noI Tryz.f67
def aS67 : Specs := (67, a67) :: aS81
theorem a67_ok : SpecOK Tryz.prog 67 a67 := inl_ok mixed aS81_ok Tryz.func67 rfl rfl
theorem aS67_ok : SpecsOK Tryz.prog aS67 := .cons a67_ok aS81_ok
/- wire.Texts -/
def a34 : Spec := inl Tryz.prog aS67 noI Tryz.f34
def aS34 : Specs := (34, a34) :: aS67
theorem a34_ok : SpecOK Tryz.prog 34 a34 := inl_ok mixed aS67_ok Tryz.func34 rfl rfl
theorem aS34_ok : SpecsOK Tryz.prog aS34 := .cons a34_ok aS67_ok
/- (kv.put).bytes -/
def a205 : Spec := inl Tryz.prog aS34 noI Tryz.f205
def aS205 : Specs := (205, a205) :: aS34
theorem a205_ok : SpecOK Tryz.prog 205 a205 := inl_ok mixed aS34_ok Tryz.func205 rfl rfl
theorem aS205_ok : SpecsOK Tryz.prog aS205 := .cons a205_ok aS34_ok
/- (*tree.node).leaf -/
def a91 : Spec := inl Tryz.prog aS205 noI Tryz.f91
def aS91 : Specs := (91, a91) :: aS205
theorem a91_ok : SpecOK Tryz.prog 91 a91 := inl_ok mixed aS205_ok Tryz.func91 rfl rfl
theorem aS91_ok : SpecsOK Tryz.prog aS91 := .cons a91_ok aS205_ok
/- slices.Clone[[]api.Pair,api.Pair] -/
def a155 : Spec := inl Tryz.prog aS91 noI Tryz.f155
def aS155 : Specs := (155, a155) :: aS91
theorem a155_ok : SpecOK Tryz.prog 155 a155 := inl_ok mixed aS91_ok Tryz.func155 rfl rfl
theorem aS155_ok : SpecsOK Tryz.prog aS155 := .cons a155_ok aS91_ok
/- slices.Clone[[]*tree.node,*tree.node] -/
def a156 : Spec := inl Tryz.prog aS155 noI Tryz.f156
def aS156 : Specs := (156, a156) :: aS155
theorem a156_ok : SpecOK Tryz.prog 156 a156 := inl_ok mixed aS155_ok Tryz.func156 rfl rfl
theorem aS156_ok : SpecsOK Tryz.prog aS156 := .cons a156_ok aS155_ok
/- slices.Reverse[[]api.Pair,api.Pair] -/
def a185 : Spec := inl Tryz.prog aS156 noI Tryz.f185
def aS185 : Specs := (185, a185) :: aS156
theorem a185_ok : SpecOK Tryz.prog 185 a185 := inl_ok mixed aS156_ok Tryz.func185 rfl rfl
theorem aS185_ok : SpecsOK Tryz.prog aS185 := .cons a185_ok aS156_ok
/- slices.rotateLeft[api.Pair] -/
def a182 : Spec := inl Tryz.prog aS185 noI Tryz.f182
def aS182 : Specs := (182, a182) :: aS185
theorem a182_ok : SpecOK Tryz.prog 182 a182 := inl_ok mixed aS185_ok Tryz.func182 rfl rfl
theorem aS182_ok : SpecsOK Tryz.prog aS182 := .cons a182_ok aS185_ok
/- slices.rotateRight[api.Pair] -/
def a175 : Spec := inl Tryz.prog aS182 noI Tryz.f175
def aS175 : Specs := (175, a175) :: aS182
theorem a175_ok : SpecOK Tryz.prog 175 a175 := inl_ok mixed aS182_ok Tryz.func175 rfl rfl
theorem aS175_ok : SpecsOK Tryz.prog aS175 := .cons a175_ok aS182_ok
/- slices.Insert[[]api.Pair,api.Pair] -/
def a157 : Spec := inl Tryz.prog aS175 noI Tryz.f157
def aS157 : Specs := (157, a157) :: aS175
theorem a157_ok : SpecOK Tryz.prog 157 a157 := inl_ok mixed aS175_ok Tryz.func157 rfl rfl
theorem aS157_ok : SpecsOK Tryz.prog aS157 := .cons a157_ok aS175_ok
/- slices.Reverse[[]*tree.node,*tree.node] -/
def a186 : Spec := inl Tryz.prog aS157 noI Tryz.f186
def aS186 : Specs := (186, a186) :: aS157
theorem a186_ok : SpecOK Tryz.prog 186 a186 := inl_ok mixed aS157_ok Tryz.func186 rfl rfl
theorem aS186_ok : SpecsOK Tryz.prog aS186 := .cons a186_ok aS157_ok
/- slices.rotateLeft[*tree.node] -/
def a183 : Spec := inl Tryz.prog aS186 noI Tryz.f183
def aS183 : Specs := (183, a183) :: aS186
theorem a183_ok : SpecOK Tryz.prog 183 a183 := inl_ok mixed aS186_ok Tryz.func183 rfl rfl
theorem aS183_ok : SpecsOK Tryz.prog aS183 := .cons a183_ok aS186_ok
/- slices.rotateRight[*tree.node] -/
def a177 : Spec := inl Tryz.prog aS183 noI Tryz.f177
def aS177 : Specs := (177, a177) :: aS183
theorem a177_ok : SpecOK Tryz.prog 177 a177 := inl_ok mixed aS183_ok Tryz.func177 rfl rfl
theorem aS177_ok : SpecsOK Tryz.prog aS177 := .cons a177_ok aS183_ok
/- slices.Insert[[]*tree.node,*tree.node] -/
def a158 : Spec := inl Tryz.prog aS177 noI Tryz.f158
def aS158 : Specs := (158, a158) :: aS177
theorem a158_ok : SpecOK Tryz.prog 158 a158 := inl_ok mixed aS177_ok Tryz.func158 rfl rfl
theorem aS158_ok : SpecsOK Tryz.prog aS158 := .cons a158_ok aS177_ok
/- (*tree.node).split -/
def a118 : Spec := inl Tryz.prog aS158 noI Tryz.f118
def aS118 : Specs := (118, a118) :: aS158
theorem a118_ok : SpecOK Tryz.prog 118 a118 := inl_ok mixed aS158_ok Tryz.func118 rfl rfl
theorem aS118_ok : SpecsOK Tryz.prog aS118 := .cons a118_ok aS158_ok
/- internal/bytealg.abigen_runtime_cmpstring -/
def a178 : Spec := cmpX
def aS178 : Specs := (178, a178) :: aS118
theorem a178_ok : SpecOK Tryz.prog 178 a178 := cmpX_ok
theorem aS178_ok : SpecsOK Tryz.prog aS178 := .cons a178_ok aS118_ok
/- internal/bytealg.CompareString -/
def a160 : Spec := inl Tryz.prog aS178 noI Tryz.f160
def aS160 : Specs := (160, a160) :: aS178
theorem a160_ok : SpecOK Tryz.prog 160 a160 := inl_ok mixed aS178_ok Tryz.func160 rfl rfl
theorem aS160_ok : SpecsOK Tryz.prog aS160 := .cons a160_ok aS178_ok
/- strings.Compare -/
def a123 : Spec := inl Tryz.prog aS160 noI Tryz.f123
def aS123 : Specs := (123, a123) :: aS160
theorem a123_ok : SpecOK Tryz.prog 123 a123 := inl_ok mixed aS160_ok Tryz.func123 rfl rfl
theorem aS123_ok : SpecsOK Tryz.prog aS123 := .cons a123_ok aS160_ok
/- (*tree.node).find$1 -/
def a122 : Spec := inl Tryz.prog aS123 noI Tryz.f122
def aS122 : Specs := (122, a122) :: aS123
theorem a122_ok : SpecOK Tryz.prog 122 a122 := inl_ok mixed aS123_ok Tryz.func122 rfl rfl
theorem aS122_ok : SpecsOK Tryz.prog aS122 := .cons a122_ok aS123_ok
/- tree.search[api.Pair] -/
def a121 : Spec := inl Tryz.prog aS122 noI Tryz.f121
def aS121 : Specs := (121, a121) :: aS122
theorem a121_ok : SpecOK Tryz.prog 121 a121 := inl_ok mixed aS122_ok Tryz.func121 rfl rfl
theorem aS121_ok : SpecsOK Tryz.prog aS121 := .cons a121_ok aS122_ok
/- (*tree.node).find -/
def a90 : Spec := inl Tryz.prog aS121 noI Tryz.f90
def aS90 : Specs := (90, a90) :: aS121
theorem a90_ok : SpecOK Tryz.prog 90 a90 := inl_ok mixed aS121_ok Tryz.func90 rfl rfl
theorem aS90_ok : SpecsOK Tryz.prog aS90 := .cons a90_ok aS121_ok
/- (*tree.node).put -/
def a119 : Spec := inl Tryz.prog aS90 noI Tryz.f119
def aS119 : Specs := (119, a119) :: aS90
theorem a119_ok : SpecOK Tryz.prog 119 a119 := inl_ok mixed aS90_ok Tryz.func119 rfl rfl
theorem aS119_ok : SpecsOK Tryz.prog aS119 := .cons a119_ok aS90_ok
/- (*tree.Tree).Put -/
def a88 : Spec := inl Tryz.prog aS119 noI Tryz.f88
def aS88 : Specs := (88, a88) :: aS119
theorem a88_ok : SpecOK Tryz.prog 88 a88 := inl_ok mixed aS119_ok Tryz.func88 rfl rfl
theorem aS88_ok : SpecsOK Tryz.prog aS88 := .cons a88_ok aS119_ok
/- (kv.put).do -/
def a206 : Spec := inl Tryz.prog aS88 noI Tryz.f206
def aS206 : Specs := (206, a206) :: aS88
theorem a206_ok : SpecOK Tryz.prog 206 a206 := inl_ok mixed aS88_ok Tryz.func206 rfl rfl
theorem aS206_ok : SpecsOK Tryz.prog aS206 := .cons a206_ok aS88_ok
/- (*kv.Store).change -/
def a49 : Spec := inl Tryz.prog aS206 noI Tryz.f49
def aS49 : Specs := (49, a49) :: aS206
theorem a49_ok : SpecOK Tryz.prog 49 a49 := inl_ok mixed aS206_ok Tryz.func49 rfl rfl
theorem aS49_ok : SpecsOK Tryz.prog aS49 := .cons a49_ok aS206_ok
/- (*kv.Store).Put -/
def a21 : Spec := inl Tryz.prog aS49 noI Tryz.f21
def aS21 : Specs := (21, a21) :: aS49
theorem a21_ok : SpecOK Tryz.prog 21 a21 := inl_ok mixed aS49_ok Tryz.func21 rfl rfl
theorem aS21_ok : SpecsOK Tryz.prog aS21 := .cons a21_ok aS49_ok
/- (*kv.Store).Sync -/
def a22 : Spec := inl Tryz.prog aS21 noI Tryz.f22
def aS22 : Specs := (22, a22) :: aS21
theorem a22_ok : SpecOK Tryz.prog 22 a22 := inl_ok mixed aS21_ok Tryz.func22 rfl rfl
theorem aS22_ok : SpecsOK Tryz.prog aS22 := .cons a22_ok aS21_ok
/- record.number -/
def a159 : Spec := inl Tryz.prog aS22 noI Tryz.f159
def aS159 : Specs := (159, a159) :: aS22
theorem a159_ok : SpecOK Tryz.prog 159 a159 := inl_ok mixed aS22_ok Tryz.func159 rfl rfl
theorem aS159_ok : SpecsOK Tryz.prog aS159 := .cons a159_ok aS22_ok
/- record.Next -/
def a120 : Spec := inl Tryz.prog aS159 noI Tryz.f120
def aS120 : Specs := (120, a120) :: aS159
theorem a120_ok : SpecOK Tryz.prog 120 a120 := inl_ok mixed aS159_ok Tryz.func120 rfl rfl
theorem aS120_ok : SpecsOK Tryz.prog aS120 := .cons a120_ok aS159_ok
/- record.Prefix -/
def a114 : Spec := inl Tryz.prog aS120 noI Tryz.f114
def aS114 : Specs := (114, a114) :: aS120
theorem a114_ok : SpecOK Tryz.prog 114 a114 := inl_ok mixed aS120_ok Tryz.func114 rfl rfl
theorem aS114_ok : SpecsOK Tryz.prog aS114 := .cons a114_ok aS120_ok
/- (*disk.Disk).Cut -/
def a115 : Spec := inl Tryz.prog aS114 noI Tryz.f115
def aS115 : Specs := (115, a115) :: aS114
theorem a115_ok : SpecOK Tryz.prog 115 a115 := inl_ok mixed aS114_ok Tryz.func115 rfl rfl
theorem aS115_ok : SpecsOK Tryz.prog aS115 := .cons a115_ok aS114_ok
/- (*segment.file).index -/
def a85 : Spec := inl Tryz.prog aS115 noI Tryz.f85
def aS85 : Specs := (85, a85) :: aS115
theorem a85_ok : SpecOK Tryz.prog 85 a85 := inl_ok mixed aS115_ok Tryz.func85 rfl rfl
theorem aS85_ok : SpecsOK Tryz.prog aS85 := .cons a85_ok aS115_ok
/- (*segment.Segments).Crash -/
def a51 : Spec := inl Tryz.prog aS85 noI Tryz.f51
def aS51 : Specs := (51, a51) :: aS85
theorem a51_ok : SpecOK Tryz.prog 51 a51 := inl_ok mixed aS85_ok Tryz.func51 rfl rfl
theorem aS51_ok : SpecsOK Tryz.prog aS51 := .cons a51_ok aS85_ok
/- (snap.slot).words -/
def a117 : Spec := inl Tryz.prog aS51 noI Tryz.f117
def aS117 : Specs := (117, a117) :: aS51
theorem a117_ok : SpecOK Tryz.prog 117 a117 := inl_ok mixed aS51_ok Tryz.func117 rfl rfl
theorem aS117_ok : SpecsOK Tryz.prog aS117 := .cons a117_ok aS51_ok
/- record.Sum -/
def a181 : Spec := inl Tryz.prog aS117 noI Tryz.f181
def aS181 : Specs := (181, a181) :: aS117
theorem a181_ok : SpecOK Tryz.prog 181 a181 := inl_ok mixed aS117_ok Tryz.func181 rfl rfl
theorem aS181_ok : SpecsOK Tryz.prog aS181 := .cons a181_ok aS117_ok
/- (snap.slot).meant -/
def a173 : Spec := inl Tryz.prog aS181 noI Tryz.f173
def aS173 : Specs := (173, a173) :: aS181
theorem a173_ok : SpecOK Tryz.prog 173 a173 := inl_ok mixed aS181_ok Tryz.func173 rfl rfl
theorem aS173_ok : SpecsOK Tryz.prog aS173 := .cons a173_ok aS181_ok
/- (snap.slot).right -/
def a154 : Spec := inl Tryz.prog aS173 noI Tryz.f154
def aS154 : Specs := (154, a154) :: aS173
theorem a154_ok : SpecOK Tryz.prog 154 a154 := inl_ok mixed aS173_ok Tryz.func154 rfl rfl
theorem aS154_ok : SpecsOK Tryz.prog aS154 := .cons a154_ok aS173_ok
/- (*snap.Snap).told -/
def a116 : Spec := inl Tryz.prog aS154 noI Tryz.f116
def aS116 : Specs := (116, a116) :: aS154
theorem a116_ok : SpecOK Tryz.prog 116 a116 := inl_ok mixed aS154_ok Tryz.func116 rfl rfl
theorem aS116_ok : SpecsOK Tryz.prog aS116 := .cons a116_ok aS154_ok
/- (*snap.Snap).Load -/
def a86 : Spec := inl Tryz.prog aS116 noI Tryz.f86
def aS86 : Specs := (86, a86) :: aS116
theorem a86_ok : SpecOK Tryz.prog 86 a86 := inl_ok mixed aS116_ok Tryz.func86 rfl rfl
theorem aS86_ok : SpecsOK Tryz.prog aS86 := .cons a86_ok aS116_ok
/- wire.next -/
def a98 : Spec := inl Tryz.prog aS86 noI Tryz.f98
def aS98 : Specs := (98, a98) :: aS86
theorem a98_ok : SpecOK Tryz.prog 98 a98 := inl_ok mixed aS86_ok Tryz.func98 rfl rfl
theorem aS98_ok : SpecsOK Tryz.prog aS98 := .cons a98_ok aS86_ok
/- wire.Read -/
def a71 : Spec := inl Tryz.prog aS98 noI Tryz.f71
def aS71 : Specs := (71, a71) :: aS98
theorem a71_ok : SpecOK Tryz.prog 71 a71 := inl_ok mixed aS98_ok Tryz.func71 rfl rfl
theorem aS71_ok : SpecsOK Tryz.prog aS71 := .cons a71_ok aS98_ok
/- snap.Unpack -/
def a87 : Spec := inl Tryz.prog aS71 noI Tryz.f87
def aS87 : Specs := (87, a87) :: aS71
theorem a87_ok : SpecOK Tryz.prog 87 a87 := inl_ok mixed aS71_ok Tryz.func87 rfl rfl
theorem aS87_ok : SpecsOK Tryz.prog aS87 := .cons a87_ok aS71_ok
/- (*kv.Store).load -/
def a52 : Spec := inl Tryz.prog aS87 noI Tryz.f52
def aS52 : Specs := (52, a52) :: aS87
theorem a52_ok : SpecOK Tryz.prog 52 a52 := inl_ok mixed aS87_ok Tryz.func52 rfl rfl
theorem aS52_ok : SpecsOK Tryz.prog aS52 := .cons a52_ok aS87_ok
/- (*segment.Segments).First -/
def a53 : Spec := inl Tryz.prog aS52 noI Tryz.f53
def aS53 : Specs := (53, a53) :: aS52
theorem a53_ok : SpecOK Tryz.prog 53 a53 := inl_ok mixed aS52_ok Tryz.func53 rfl rfl
theorem aS53_ok : SpecsOK Tryz.prog aS53 := .cons a53_ok aS52_ok
/- (*segment.file).get -/
def a89 : Spec := inl Tryz.prog aS53 noI Tryz.f89
def aS89 : Specs := (89, a89) :: aS53
theorem a89_ok : SpecOK Tryz.prog 89 a89 := inl_ok mixed aS53_ok Tryz.func89 rfl rfl
theorem aS89_ok : SpecsOK Tryz.prog aS89 := .cons a89_ok aS53_ok
/- (*segment.Segments).Get -/
def a55 : Spec := inl Tryz.prog aS89 noI Tryz.f55
def aS55 : Specs := (55, a55) :: aS89
theorem a55_ok : SpecOK Tryz.prog 55 a55 := inl_ok mixed aS89_ok Tryz.func55 rfl rfl
theorem aS55_ok : SpecsOK Tryz.prog aS55 := .cons a55_ok aS89_ok
/- kv.read -/
def a56 : Spec := inl Tryz.prog aS55 noI Tryz.f56
def aS56 : Specs := (56, a56) :: aS55
theorem a56_ok : SpecOK Tryz.prog 56 a56 := inl_ok mixed aS55_ok Tryz.func56 rfl rfl
theorem aS56_ok : SpecsOK Tryz.prog aS56 := .cons a56_ok aS55_ok
/- (*kv.Store).Crash -/
def a23 : Spec := inl Tryz.prog aS56 noI Tryz.f23
def aS23 : Specs := (23, a23) :: aS56
theorem a23_ok : SpecOK Tryz.prog 23 a23 := inl_ok mixed aS56_ok Tryz.func23 rfl rfl
theorem aS23_ok : SpecsOK Tryz.prog aS23 := .cons a23_ok aS56_ok
/- (*tree.Tree).Get -/
def a57 : Spec := inl Tryz.prog aS23 noI Tryz.f57
def aS57 : Specs := (57, a57) :: aS23
theorem a57_ok : SpecOK Tryz.prog 57 a57 := inl_ok mixed aS23_ok Tryz.func57 rfl rfl
theorem aS57_ok : SpecsOK Tryz.prog aS57 := .cons a57_ok aS23_ok
/- (*kv.Store).Get -/
def a24 : Spec := inl Tryz.prog aS57 noI Tryz.f24
def aS24 : Specs := (24, a24) :: aS57
theorem a24_ok : SpecOK Tryz.prog 24 a24 := inl_ok mixed aS57_ok Tryz.func24 rfl rfl
theorem aS24_ok : SpecsOK Tryz.prog aS24 := .cons a24_ok aS57_ok
/- (*follow.Follow).Told -/
def a58 : Spec := inl Tryz.prog aS24 noI Tryz.f58
def aS58 : Specs := (58, a58) :: aS24
theorem a58_ok : SpecOK Tryz.prog 58 a58 := inl_ok mixed aS24_ok Tryz.func58 rfl rfl
theorem aS58_ok : SpecsOK Tryz.prog aS58 := .cons a58_ok aS24_ok
/- (*follow.Follow).Log -/
def a26 : Spec := inl Tryz.prog aS58 noI Tryz.f26
def aS26 : Specs := (26, a26) :: aS58
theorem a26_ok : SpecOK Tryz.prog 26 a26 := inl_ok mixed aS58_ok Tryz.func26 rfl rfl
theorem aS26_ok : SpecsOK Tryz.prog aS26 := .cons a26_ok aS58_ok
end Go.Proofs.YtmnenigmkfnciaaGreatDoor.Sx
