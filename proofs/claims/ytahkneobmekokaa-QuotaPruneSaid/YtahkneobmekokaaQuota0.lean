/- The quota, met by its bodies: the example of chapter 49. No condition. -/
import Derived.Test.YtahkneobmekokaaSx12
import Derived.Test.YtahkneobmekokaaProg
import Derived.Test.YtahkneobmekokaaBase
namespace Go.Proofs.Ytahkneobmekokaa.Sx
open Go Go.Proofs
set_option maxRecDepth 100000
set_option linter.unusedSimpArgs false
set_option linter.unusedVariables false

def iqOf : Spec := inl Try.prog [] noI Try.f24
def iqMay : Spec := inl Try.prog [] noI Try.f26
def iqNew : Spec := inl Try.prog [] noI Try.f9
def iqUsed : Spec := inl Try.prog [(24, iqOf)] noI Try.f12
def iqMost : Spec := inl Try.prog [(24, iqOf)] noI Try.f16
def iqCharge : Spec := inl Try.prog [(24, iqOf), (26, iqMay)] noI Try.f18
def iqIndex : Spec := inl Try.prog [] noI Try.f27
def iqDelete : Spec := inl Try.prog [] noI Try.f28
def iqRefund : Spec := inl Try.prog [(24, iqOf), (26, iqMay), (27, iqIndex), (28, iqDelete)] noI Try.f19
def iqP1 : Spec := inl Try.prog [] noI Try.f30
def iqIndexF : Spec := inl Try.prog [(30, iqP1)] noI Try.f34
def iqDelF : Spec := inl Try.prog [(30, iqP1), (34, iqIndexF)] noI Try.f29
def iqPrune : Spec := inl Try.prog [(29, iqDelF)] noI Try.f20
def iqSum : Spec := inl Try.prog [] noI Try.f25
def iqSum1 : Spec := inl Try.prog [] noI Try.f32
def iqSum2 : Spec := inl Try.prog [] noI Try.f33
def iqTotal : Spec := inl Try.prog [(25, iqSum), (32, iqSum1), (33, iqSum2)] noI Try.f14
def iqAll : Specs := [(9, iqNew), (18, iqCharge), (12, iqUsed), (19, iqRefund), (16, iqMost), (14, iqTotal), (20, iqPrune)]
theorem awake49_vf (K : SV → Prop) : (vf Try.prog iqAll noI Try.f8 [] [] fun s _ _ => K s) = K (.v (.bool true)) := by kernel_rfl
theorem iqOf_ok : SpecOK Try.prog 24 iqOf := inl_ok mixed SpecsOK.nil Try.func24 rfl rfl
theorem iqMay_ok : SpecOK Try.prog 26 iqMay := inl_ok mixed SpecsOK.nil Try.func26 rfl rfl
theorem iqNew_ok : SpecOK Try.prog 9 iqNew := inl_ok mixed SpecsOK.nil Try.func9 rfl rfl
theorem iqUsed_ok : SpecOK Try.prog 12 iqUsed := inl_ok mixed (.cons iqOf_ok .nil) Try.func12 rfl rfl
theorem iqMost_ok : SpecOK Try.prog 16 iqMost := inl_ok mixed (.cons iqOf_ok .nil) Try.func16 rfl rfl
theorem iqCharge_ok : SpecOK Try.prog 18 iqCharge := inl_ok mixed (.cons iqOf_ok (.cons iqMay_ok .nil)) Try.func18 rfl rfl
theorem iqIndex_ok : SpecOK Try.prog 27 iqIndex := inl_ok mixed .nil Try.func27 rfl rfl
theorem iqDelete_ok : SpecOK Try.prog 28 iqDelete := inl_ok mixed .nil Try.func28 rfl rfl
theorem iqRefund_ok : SpecOK Try.prog 19 iqRefund := inl_ok mixed (.cons iqOf_ok (.cons iqMay_ok (.cons iqIndex_ok (.cons iqDelete_ok .nil)))) Try.func19 rfl rfl
theorem iqP1_ok : SpecOK Try.prog 30 iqP1 := inl_ok mixed .nil Try.func30 rfl rfl
theorem iqIndexF_ok : SpecOK Try.prog 34 iqIndexF := inl_ok mixed (.cons iqP1_ok .nil) Try.func34 rfl rfl
theorem iqDelF_ok : SpecOK Try.prog 29 iqDelF := inl_ok mixed (.cons iqP1_ok (.cons iqIndexF_ok .nil)) Try.func29 rfl rfl
theorem iqPrune_ok : SpecOK Try.prog 20 iqPrune := inl_ok mixed (.cons iqDelF_ok .nil) Try.func20 rfl rfl
theorem iqSum_ok : SpecOK Try.prog 25 iqSum := inl_ok mixed .nil Try.func25 rfl rfl
theorem iqSum1_ok : SpecOK Try.prog 32 iqSum1 := inl_ok mixed .nil Try.func32 rfl rfl
theorem iqSum2_ok : SpecOK Try.prog 33 iqSum2 := inl_ok mixed .nil Try.func33 rfl rfl
theorem iqTotal_ok : SpecOK Try.prog 14 iqTotal := inl_ok mixed (.cons iqSum_ok (.cons iqSum1_ok (.cons iqSum2_ok .nil))) Try.func14 rfl rfl
theorem iqAll_ok : SpecsOK Try.prog iqAll := .cons iqNew_ok (.cons iqCharge_ok (.cons iqUsed_ok (.cons iqRefund_ok (.cons iqMost_ok (.cons iqTotal_ok (.cons iqPrune_ok .nil))))))
theorem awake49_ok : SpecOK Try.prog 8 closedS := closed_ok mixed iqAll_ok Try.func8 rfl rfl awake49_vf
def noneS : Spec := .q fun args blks K => match args, blks with
  | [.agg [.v (.int .i64 _), .v (.int .i64 _), .v (.int .i64 _), .v (.int .i64 _)]], [] => K (.v (.bool true))
  | _, _ => False
def noneSpecs : Specs := [(8, closedS), (18, iqCharge), (12, iqUsed), (19, iqRefund), (16, iqMost), (14, iqTotal), (20, iqPrune)]

end Go.Proofs.Ytahkneobmekokaa.Sx
