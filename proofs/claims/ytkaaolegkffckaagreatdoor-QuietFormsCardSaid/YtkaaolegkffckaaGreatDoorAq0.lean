/- What is known of the program's types and functions. Printed. -/
import Derived.Test.YtkaaolegkffckaaGreatDoorPlQuick
import Derived.Test.YtkaaolegkffckaaGreatDoorProg
import Derived.KernelRfl
set_option linter.unusedVariables false
set_option maxRecDepth 100000
namespace Go.Pl.Aq
open Go Go.Pl
def ti3 : TI := ⟨(.int .i64), 1, 8, (.int .i64 (.ofNat 0))⟩
theorem tk3 : TIok Go.Proofs.Tryz.prog 3 ti3 := tiOk_of (by kernel_rfl)
def ti4 : TI := ⟨.bool, 1, 1, (.bool false)⟩
theorem tk4 : TIok Go.Proofs.Tryz.prog 4 ti4 := tiOk_of (by kernel_rfl)
def ti5 : TI := ⟨(.int .u8), 1, 1, (.int .u8 (.ofNat 0))⟩
theorem tk5 : TIok Go.Proofs.Tryz.prog 5 ti5 := tiOk_of (by kernel_rfl)
def ti9 : TI := ⟨.str, 1, 16, (.string ⟨#[]⟩)⟩
theorem tk9 : TIok Go.Proofs.Tryz.prog 9 ti9 := tiOk_of (by kernel_rfl)
def ti22 : TI := ⟨(.slc 5), 1, 24, (.slice none 0 0)⟩
theorem tk22 : TIok Go.Proofs.Tryz.prog 22 ti22 := tiOk_of (by kernel_rfl)
def ti24 : TI := ⟨.ptr, 1, 8, (.pointer none)⟩
theorem tk24 : TIok Go.Proofs.Tryz.prog 24 ti24 := tiOk_of (by kernel_rfl)
def ti26 : TI := ⟨(.slc 59), 1, 24, (.slice none 0 0)⟩
theorem tk26 : TIok Go.Proofs.Tryz.prog 26 ti26 := tiOk_of (by kernel_rfl)
def ti27 : TI := ⟨(.slc 48), 1, 24, (.slice none 0 0)⟩
theorem tk27 : TIok Go.Proofs.Tryz.prog 27 ti27 := tiOk_of (by kernel_rfl)
def ti28 : TI := ⟨(.slc 9), 1, 24, (.slice none 0 0)⟩
theorem tk28 : TIok Go.Proofs.Tryz.prog 28 ti28 := tiOk_of (by kernel_rfl)
def ti29 : TI := ⟨(.slc 42), 1, 24, (.slice none 0 0)⟩
theorem tk29 : TIok Go.Proofs.Tryz.prog 29 ti29 := tiOk_of (by kernel_rfl)
def ti30 : TI := ⟨(.slc 156), 1, 24, (.slice none 0 0)⟩
theorem tk30 : TIok Go.Proofs.Tryz.prog 30 ti30 := tiOk_of (by kernel_rfl)
def ti32 : TI := ⟨(.stc [(0, 3), (1, 29), (2, 30)]), 3, 56, (.agg #[(.int .i64 (.ofNat 0)), (.slice none 0 0), (.slice none 0 0)])⟩
theorem tk32 : TIok Go.Proofs.Tryz.prog 32 ti32 := tiOk_of (by kernel_rfl)
def ti34 : TI := ⟨(.stc [(0, 26), (1, 27), (2, 28), (3, 32)]), 6, 128, (.agg #[(.slice none 0 0), (.slice none 0 0), (.slice none 0 0), (.int .i64 (.ofNat 0)), (.slice none 0 0), (.slice none 0 0)])⟩
theorem tk34 : TIok Go.Proofs.Tryz.prog 34 ti34 := tiOk_of (by kernel_rfl)
def ti36 : TI := ⟨(.int .i64), 1, 8, (.int .i64 (.ofNat 0))⟩
theorem tk36 : TIok Go.Proofs.Tryz.prog 36 ti36 := tiOk_of (by kernel_rfl)
def ti40 : TI := ⟨(.stc [(0, 3), (1, 3), (2, 3), (3, 3), (4, 9)]), 5, 48, (.agg #[(.int .i64 (.ofNat 0)), (.int .i64 (.ofNat 0)), (.int .i64 (.ofNat 0)), (.int .i64 (.ofNat 0)), (.string ⟨#[]⟩)])⟩
theorem tk40 : TIok Go.Proofs.Tryz.prog 40 ti40 := tiOk_of (by kernel_rfl)
def ti42 : TI := ⟨(.slc 3), 1, 24, (.slice none 0 0)⟩
theorem tk42 : TIok Go.Proofs.Tryz.prog 42 ti42 := tiOk_of (by kernel_rfl)
def ti44 : TI := ⟨(.stc [(0, 3), (1, 3), (2, 3), (3, 3), (4, 3), (5, 3), (6, 42), (7, 3), (8, 3), (9, 9)]), 10, 104, (.agg #[(.int .i64 (.ofNat 0)), (.int .i64 (.ofNat 0)), (.int .i64 (.ofNat 0)), (.int .i64 (.ofNat 0)), (.int .i64 (.ofNat 0)), (.int .i64 (.ofNat 0)), (.slice none 0 0), (.int .i64 (.ofNat 0)), (.int .i64 (.ofNat 0)), (.string ⟨#[]⟩)])⟩
theorem tk44 : TIok Go.Proofs.Tryz.prog 44 ti44 := tiOk_of (by kernel_rfl)
def ti48 : TI := ⟨(.stc [(0, 3), (1, 9), (2, 4)]), 3, 32, (.agg #[(.int .i64 (.ofNat 0)), (.string ⟨#[]⟩), (.bool false)])⟩
theorem tk48 : TIok Go.Proofs.Tryz.prog 48 ti48 := tiOk_of (by kernel_rfl)
def ti49 : TI := ⟨(.slc 132), 1, 24, (.slice none 0 0)⟩
theorem tk49 : TIok Go.Proofs.Tryz.prog 49 ti49 := tiOk_of (by kernel_rfl)
def ti51 : TI := ⟨(.stc [(0, 3), (1, 3), (2, 3), (3, 3), (4, 3), (5, 3), (6, 42), (7, 3), (8, 3), (9, 3), (10, 3), (11, 3), (12, 49)]), 13, 136, (.agg #[(.int .i64 (.ofNat 0)), (.int .i64 (.ofNat 0)), (.int .i64 (.ofNat 0)), (.int .i64 (.ofNat 0)), (.int .i64 (.ofNat 0)), (.int .i64 (.ofNat 0)), (.slice none 0 0), (.int .i64 (.ofNat 0)), (.int .i64 (.ofNat 0)), (.int .i64 (.ofNat 0)), (.int .i64 (.ofNat 0)), (.int .i64 (.ofNat 0)), (.slice none 0 0)])⟩
theorem tk51 : TIok Go.Proofs.Tryz.prog 51 ti51 := tiOk_of (by kernel_rfl)
def ti52 : TI := ⟨(.slc 242), 1, 24, (.slice none 0 0)⟩
theorem tk52 : TIok Go.Proofs.Tryz.prog 52 ti52 := tiOk_of (by kernel_rfl)
def ti53 : TI := ⟨(.slc 94), 1, 24, (.slice none 0 0)⟩
theorem tk53 : TIok Go.Proofs.Tryz.prog 53 ti53 := tiOk_of (by kernel_rfl)
def ti55 : TI := ⟨(.stc [(0, 3), (1, 3)]), 2, 16, (.agg #[(.int .i64 (.ofNat 0)), (.int .i64 (.ofNat 0))])⟩
theorem tk55 : TIok Go.Proofs.Tryz.prog 55 ti55 := tiOk_of (by kernel_rfl)
def ti57 : TI := ⟨(.stc [(0, 3), (1, 3), (2, 52), (3, 52), (4, 53), (5, 55)]), 7, 104, (.agg #[(.int .i64 (.ofNat 0)), (.int .i64 (.ofNat 0)), (.slice none 0 0), (.slice none 0 0), (.slice none 0 0), (.int .i64 (.ofNat 0)), (.int .i64 (.ofNat 0))])⟩
theorem tk57 : TIok Go.Proofs.Tryz.prog 57 ti57 := tiOk_of (by kernel_rfl)
def ti59 : TI := ⟨(.stc [(0, 4), (1, 3), (2, 9), (3, 51), (16, 57), (23, 3)]), 24, 280, (.agg #[(.bool false), (.int .i64 (.ofNat 0)), (.string ⟨#[]⟩), (.int .i64 (.ofNat 0)), (.int .i64 (.ofNat 0)), (.int .i64 (.ofNat 0)), (.int .i64 (.ofNat 0)), (.int .i64 (.ofNat 0)), (.int .i64 (.ofNat 0)), (.slice none 0 0), (.int .i64 (.ofNat 0)), (.int .i64 (.ofNat 0)), (.int .i64 (.ofNat 0)), (.int .i64 (.ofNat 0)), (.int .i64 (.ofNat 0)), (.slice none 0 0), (.int .i64 (.ofNat 0)), (.int .i64 (.ofNat 0)), (.slice none 0 0), (.slice none 0 0), (.slice none 0 0), (.int .i64 (.ofNat 0)), (.int .i64 (.ofNat 0)), (.int .i64 (.ofNat 0))])⟩
theorem tk59 : TIok Go.Proofs.Tryz.prog 59 ti59 := tiOk_of (by kernel_rfl)
def ti70 : TI := ⟨(.slc 4), 1, 24, (.slice none 0 0)⟩
theorem tk70 : TIok Go.Proofs.Tryz.prog 70 ti70 := tiOk_of (by kernel_rfl)
def ti94 : TI := ⟨(.stc [(0, 3), (1, 3), (2, 3), (3, 9), (4, 3)]), 5, 48, (.agg #[(.int .i64 (.ofNat 0)), (.int .i64 (.ofNat 0)), (.int .i64 (.ofNat 0)), (.string ⟨#[]⟩), (.int .i64 (.ofNat 0))])⟩
theorem tk94 : TIok Go.Proofs.Tryz.prog 94 ti94 := tiOk_of (by kernel_rfl)
def ti108 : TI := ⟨(.stc [(0, 22), (1, 3)]), 2, 32, (.agg #[(.slice none 0 0), (.int .i64 (.ofNat 0))])⟩
theorem tk108 : TIok Go.Proofs.Tryz.prog 108 ti108 := tiOk_of (by kernel_rfl)
def ti109 : TI := ⟨.ptr, 1, 8, (.pointer none)⟩
theorem tk109 : TIok Go.Proofs.Tryz.prog 109 ti109 := tiOk_of (by kernel_rfl)
def ti111 : TI := ⟨(.stc [(0, 34)]), 6, 128, (.agg #[(.slice none 0 0), (.slice none 0 0), (.slice none 0 0), (.int .i64 (.ofNat 0)), (.slice none 0 0), (.slice none 0 0)])⟩
theorem tk111 : TIok Go.Proofs.Tryz.prog 111 ti111 := tiOk_of (by kernel_rfl)
def ti113 : TI := ⟨.ifc, 1, 16, .nilIface⟩
theorem tk113 : TIok Go.Proofs.Tryz.prog 113 ti113 := tiOk_of (by kernel_rfl)
def ti116 : TI := ⟨(.stc [(0, 36)]), 1, 8, (.agg #[(.int .i64 (.ofNat 0))])⟩
theorem tk116 : TIok Go.Proofs.Tryz.prog 116 ti116 := tiOk_of (by kernel_rfl)
def ti132 : TI := ⟨(.stc [(0, 3), (1, 3), (2, 3)]), 3, 24, (.agg #[(.int .i64 (.ofNat 0)), (.int .i64 (.ofNat 0)), (.int .i64 (.ofNat 0))])⟩
theorem tk132 : TIok Go.Proofs.Tryz.prog 132 ti132 := tiOk_of (by kernel_rfl)
def ti139 : TI := ⟨(.slc 44), 1, 24, (.slice none 0 0)⟩
theorem tk139 : TIok Go.Proofs.Tryz.prog 139 ti139 := tiOk_of (by kernel_rfl)
def ti156 : TI := ⟨(.slc 161), 1, 24, (.slice none 0 0)⟩
theorem tk156 : TIok Go.Proofs.Tryz.prog 156 ti156 := tiOk_of (by kernel_rfl)
def ti161 : TI := ⟨(.stc [(0, 42), (1, 3)]), 2, 32, (.agg #[(.slice none 0 0), (.int .i64 (.ofNat 0))])⟩
theorem tk161 : TIok Go.Proofs.Tryz.prog 161 ti161 := tiOk_of (by kernel_rfl)
def ti165 : TI := ⟨.ptr, 1, 8, (.pointer none)⟩
theorem tk165 : TIok Go.Proofs.Tryz.prog 165 ti165 := tiOk_of (by kernel_rfl)
def ti167 : TI := ⟨(.stc [(0, 22), (1, 113)]), 2, 40, (.agg #[(.slice none 0 0), .nilIface])⟩
theorem tk167 : TIok Go.Proofs.Tryz.prog 167 ti167 := tiOk_of (by kernel_rfl)
def ti170 : TI := ⟨(.stc [(0, 9)]), 1, 16, (.agg #[(.string ⟨#[]⟩)])⟩
theorem tk170 : TIok Go.Proofs.Tryz.prog 170 ti170 := tiOk_of (by kernel_rfl)
def ti198 : TI := ⟨(.int .u32), 1, 4, (.int .u32 (.ofNat 0))⟩
theorem tk198 : TIok Go.Proofs.Tryz.prog 198 ti198 := tiOk_of (by kernel_rfl)
def ti200 : TI := ⟨(.int .u64), 1, 8, (.int .u64 (.ofNat 0))⟩
theorem tk200 : TIok Go.Proofs.Tryz.prog 200 ti200 := tiOk_of (by kernel_rfl)
def ti242 : TI := ⟨(.stc [(0, 3), (1, 9)]), 2, 24, (.agg #[(.int .i64 (.ofNat 0)), (.string ⟨#[]⟩)])⟩
theorem tk242 : TIok Go.Proofs.Tryz.prog 242 ti242 := tiOk_of (by kernel_rfl)
def ti244 : TI := ⟨.ptr, 1, 8, (.pointer none)⟩
theorem tk244 : TIok Go.Proofs.Tryz.prog 244 ti244 := tiOk_of (by kernel_rfl)
def ti251 : TI := ⟨(.stc [(0, 3), (1, 3)]), 2, 16, (.agg #[(.int .i64 (.ofNat 0)), (.int .i64 (.ofNat 0))])⟩
theorem tk251 : TIok Go.Proofs.Tryz.prog 251 ti251 := tiOk_of (by kernel_rfl)
def ti303 : TI := ⟨(.stc [(0, 3)]), 1, 8, (.agg #[(.int .i64 (.ofNat 0))])⟩
theorem tk303 : TIok Go.Proofs.Tryz.prog 303 ti303 := tiOk_of (by kernel_rfl)
def ti342 : TI := ⟨(.stc []), 0, 0, (.agg #[])⟩
theorem tk342 : TIok Go.Proofs.Tryz.prog 342 ti342 := tiOk_of (by kernel_rfl)
def ti346 : TI := ⟨.ptr, 1, 8, (.pointer none)⟩
theorem tk346 : TIok Go.Proofs.Tryz.prog 346 ti346 := tiOk_of (by kernel_rfl)
def ti349 : TI := ⟨(.stc [(0, 51), (13, 139)]), 14, 160, (.agg #[(.int .i64 (.ofNat 0)), (.int .i64 (.ofNat 0)), (.int .i64 (.ofNat 0)), (.int .i64 (.ofNat 0)), (.int .i64 (.ofNat 0)), (.int .i64 (.ofNat 0)), (.slice none 0 0), (.int .i64 (.ofNat 0)), (.int .i64 (.ofNat 0)), (.int .i64 (.ofNat 0)), (.int .i64 (.ofNat 0)), (.int .i64 (.ofNat 0)), (.slice none 0 0), (.slice none 0 0)])⟩
theorem tk349 : TIok Go.Proofs.Tryz.prog 349 ti349 := tiOk_of (by kernel_rfl)
theorem ek40 : EqP Go.Proofs.Tryz.prog 40 [.i, .i, .i, .i, .s] := show eqTy _ _ _ = true by kernel_rfl
theorem ek48 : EqP Go.Proofs.Tryz.prog 48 [.i, .s, .b] := show eqTy _ _ _ = true by kernel_rfl
theorem ek55 : EqP Go.Proofs.Tryz.prog 55 [.i, .i] := show eqTy _ _ _ = true by kernel_rfl
theorem ek94 : EqP Go.Proofs.Tryz.prog 94 [.i, .i, .i, .s, .i] := show eqTy _ _ _ = true by kernel_rfl
theorem ek116 : EqP Go.Proofs.Tryz.prog 116 [.i] := show eqTy _ _ _ = true by kernel_rfl
theorem ek132 : EqP Go.Proofs.Tryz.prog 132 [.i, .i, .i] := show eqTy _ _ _ = true by kernel_rfl
theorem ek170 : EqP Go.Proofs.Tryz.prog 170 [.s] := show eqTy _ _ _ = true by kernel_rfl
theorem ek242 : EqP Go.Proofs.Tryz.prog 242 [.i, .s] := show eqTy _ _ _ = true by kernel_rfl
theorem ek251 : EqP Go.Proofs.Tryz.prog 251 [.i, .i] := show eqTy _ _ _ = true by kernel_rfl
theorem ek303 : EqP Go.Proofs.Tryz.prog 303 [.i] := show eqTy _ _ _ = true by kernel_rfl
theorem ek342 : EqP Go.Proofs.Tryz.prog 342 [] := show eqTy _ _ _ = true by kernel_rfl
def tT : Tri TI := (.nd (.nd (.nd (.nd (.nd .lf none (.nd .lf none (.nd (.nd (.nd .lf (some ti303) .lf) none .lf) (some ti111) .lf))) none (.nd (.nd .lf none (.nd (.nd .lf (some ti167) .lf) none .lf)) none (.nd .lf (some ti55) .lf))) (some ti3) (.nd (.nd .lf none (.nd .lf (some ti51) .lf)) none (.nd (.nd (.nd (.nd .lf (some ti139) .lf) none .lf) none .lf) (some ti27) (.nd .lf (some ti59) (.nd .lf none (.nd .lf (some ti251) .lf)))))) none (.nd (.nd (.nd (.nd .lf none (.nd (.nd .lf (some ti161) .lf) none .lf)) none (.nd .lf (some ti49) (.nd .lf (some ti113) .lf))) (some ti9) (.nd .lf none (.nd .lf (some ti57) .lf))) (some ti5) (.nd (.nd (.nd .lf none (.nd (.nd .lf (some ti165) .lf) none .lf)) none (.nd .lf (some ti53) .lf)) none (.nd (.nd .lf none (.nd .lf (some ti109) .lf)) (some ti29) (.nd (.nd .lf none (.nd (.nd .lf (some ti349) .lf) none .lf)) none .lf))))) none (.nd (.nd (.nd (.nd (.nd .lf (some ti32) .lf) none (.nd .lf (some ti48) .lf)) none (.nd (.nd (.nd .lf none (.nd .lf (some ti200) .lf)) (some ti40) .lf) (some ti24) .lf)) (some ti4) (.nd (.nd (.nd (.nd (.nd .lf (some ti132) .lf) none .lf) (some ti36) .lf) none (.nd .lf (some ti52) (.nd .lf (some ti116) (.nd .lf (some ti244) .lf)))) none (.nd (.nd .lf (some ti44) (.nd .lf (some ti108) .lf)) (some ti28) (.nd (.nd (.nd .lf (some ti156) .lf) none .lf) none .lf)))) none (.nd (.nd (.nd (.nd .lf (some ti34) .lf) none (.nd .lf none (.nd .lf none (.nd .lf (some ti242) .lf)))) none (.nd (.nd .lf (some ti42) (.nd (.nd .lf (some ti170) .lf) none .lf)) (some ti26) (.nd (.nd .lf none (.nd (.nd .lf (some ti346) .lf) none .lf)) none .lf))) none (.nd (.nd (.nd (.nd .lf (some ti70) (.nd .lf (some ti198) .lf)) none .lf) (some ti22) (.nd (.nd .lf none (.nd (.nd .lf (some ti342) .lf) none .lf)) none .lf)) none (.nd .lf (some ti30) (.nd (.nd .lf (some ti94) .lf) none .lf))))))
def eT : Tri (List SK) := (.nd (.nd (.nd (.nd (.nd .lf none (.nd .lf none (.nd (.nd (.nd .lf (some [.i]) .lf) none .lf) none .lf))) none (.nd .lf none (.nd .lf (some [.i, .i]) .lf))) none (.nd .lf none (.nd .lf none (.nd .lf none (.nd .lf none (.nd .lf (some [.i, .i]) .lf)))))) none .lf) none (.nd (.nd (.nd (.nd .lf none (.nd .lf (some [.i, .s, .b]) .lf)) none (.nd (.nd .lf (some [.i, .i, .i, .i, .s]) .lf) none .lf)) none (.nd (.nd (.nd (.nd (.nd .lf (some [.i, .i, .i]) .lf) none .lf) none .lf) none (.nd .lf none (.nd .lf (some [.i]) .lf))) none .lf)) none (.nd (.nd (.nd .lf none (.nd .lf none (.nd .lf none (.nd .lf (some [.i, .s]) .lf)))) none (.nd (.nd .lf none (.nd (.nd .lf (some [.s]) .lf) none .lf)) none .lf)) none (.nd (.nd .lf none (.nd (.nd .lf none (.nd (.nd .lf (some []) .lf) none .lf)) none .lf)) none (.nd .lf none (.nd (.nd .lf (some [.i, .i, .i, .s, .i]) .lf) none .lf))))))
def mT : Tri Unit := (.nd (.nd (.nd (.nd (.nd .lf none (.nd (.nd (.nd (.nd .lf (some ()) .lf) none .lf) none (.nd (.nd .lf (some ()) .lf) none .lf)) none .lf)) none (.nd (.nd (.nd .lf none (.nd (.nd .lf (some ()) .lf) (some ()) .lf)) none .lf) none .lf)) none (.nd (.nd (.nd .lf none (.nd (.nd .lf none (.nd .lf (some ()) .lf)) none .lf)) none (.nd .lf none (.nd (.nd .lf none (.nd .lf (some ()) .lf)) none .lf))) none (.nd (.nd (.nd .lf none (.nd (.nd .lf (some ()) .lf) none .lf)) none (.nd (.nd .lf none (.nd .lf (some ()) .lf)) none .lf)) none .lf))) none (.nd (.nd (.nd (.nd .lf none (.nd (.nd .lf none (.nd .lf (some ()) .lf)) none .lf)) none (.nd (.nd (.nd .lf none (.nd .lf (some ()) .lf)) none .lf) none (.nd (.nd .lf none (.nd .lf (some ()) .lf)) none .lf))) none (.nd (.nd (.nd (.nd .lf none (.nd .lf (some ()) .lf)) none (.nd (.nd .lf (some ()) .lf) none .lf)) none (.nd (.nd (.nd .lf (some ()) .lf) none .lf) none .lf)) none .lf)) none (.nd (.nd (.nd (.nd .lf none (.nd .lf (some ()) .lf)) none .lf) none .lf) none (.nd (.nd (.nd (.nd .lf none (.nd .lf (some ()) .lf)) none (.nd (.nd .lf (some ()) .lf) (some ()) .lf)) none (.nd (.nd (.nd .lf (some ()) .lf) none .lf) none .lf)) none .lf)))) none (.nd (.nd (.nd (.nd (.nd .lf none (.nd (.nd .lf none (.nd .lf (some ()) .lf)) none (.nd (.nd .lf (some ()) .lf) none .lf))) none (.nd (.nd (.nd .lf none (.nd .lf (some ()) .lf)) none (.nd (.nd .lf (some ()) .lf) none .lf)) none (.nd (.nd .lf none (.nd .lf (some ()) .lf)) none .lf))) none (.nd (.nd (.nd (.nd .lf none (.nd .lf (some ()) .lf)) none (.nd (.nd .lf (some ()) .lf) none .lf)) none .lf) none .lf)) none (.nd (.nd .lf none (.nd .lf none (.nd (.nd .lf none (.nd .lf (some ()) .lf)) none .lf))) none (.nd (.nd (.nd (.nd .lf none (.nd .lf (some ()) .lf)) none (.nd (.nd .lf (some ()) .lf) (some ()) .lf)) none (.nd (.nd .lf none (.nd .lf (some ()) .lf)) none .lf)) none .lf))) none (.nd (.nd (.nd (.nd .lf none (.nd (.nd .lf none (.nd .lf (some ()) .lf)) none (.nd (.nd .lf (some ()) .lf) none .lf))) none (.nd .lf none (.nd (.nd .lf none (.nd .lf (some ()) .lf)) none .lf))) none (.nd (.nd (.nd .lf none (.nd (.nd .lf (some ()) .lf) none .lf)) none (.nd (.nd .lf none (.nd .lf (some ()) .lf)) none .lf)) none .lf)) none (.nd (.nd (.nd (.nd (.nd .lf (some ()) .lf) none .lf) none .lf) none (.nd (.nd .lf none (.nd (.nd .lf (some ()) .lf) none .lf)) none .lf)) none (.nd (.nd (.nd (.nd (.nd .lf (some ()) .lf) none .lf) none .lf) none (.nd (.nd .lf none (.nd .lf (some ()) .lf)) none .lf)) none (.nd (.nd .lf none (.nd (.nd .lf (some ()) .lf) none .lf)) none .lf))))))
def kT : Tri Unit := (.nd (.nd (.nd (.nd (.nd (.nd .lf none (.nd .lf none (.nd (.nd .lf (some ()) .lf) none .lf))) none .lf) none .lf) none .lf) none (.nd (.nd (.nd (.nd .lf none (.nd (.nd (.nd .lf (some ()) .lf) none .lf) none .lf)) none .lf) none .lf) none .lf)) none (.nd (.nd (.nd (.nd (.nd .lf none (.nd .lf none (.nd (.nd .lf (some ()) .lf) none .lf))) none .lf) none .lf) none (.nd (.nd (.nd .lf (some ()) .lf) none .lf) none .lf)) none (.nd (.nd (.nd (.nd .lf none (.nd .lf none (.nd (.nd .lf (some ()) .lf) none .lf))) none .lf) none (.nd (.nd (.nd .lf none (.nd .lf (some ()) .lf)) none .lf) none (.nd .lf none (.nd .lf (some ()) .lf)))) none (.nd (.nd .lf none (.nd (.nd .lf none (.nd (.nd .lf (some ()) .lf) none .lf)) none .lf)) none .lf))))
def mdT (f : FuncId) : List Bool := match mT.get f with
  | some _ => [true]
  | none => []
def rmT (_ : FuncId) : List Bool := [true, true, true]
def kpT (f : FuncId) : Bool := match kT.get f with
  | some _ => true
  | none => false
noncomputable def XX : Env := { P := Go.Proofs.Tryz.prog, T := tT.get, E := eT.get, Gl := fun _ => none, kp := kpT }
theorem tT_ok : tT.All (TIok Go.Proofs.Tryz.prog) id := ⟨Tri.none_all, ⟨Tri.none_all, ⟨Tri.some_all tk3, ⟨Tri.none_all, ⟨Tri.none_all, trivial, ⟨Tri.none_all, trivial, ⟨Tri.some_all tk111, ⟨Tri.none_all, ⟨Tri.some_all tk303, trivial, trivial⟩, trivial⟩, trivial⟩⟩⟩, ⟨Tri.none_all, ⟨Tri.none_all, trivial, ⟨Tri.none_all, ⟨Tri.some_all tk167, trivial, trivial⟩, trivial⟩⟩, ⟨Tri.some_all tk55, trivial, trivial⟩⟩⟩, ⟨Tri.none_all, ⟨Tri.none_all, trivial, ⟨Tri.some_all tk51, trivial, trivial⟩⟩, ⟨Tri.some_all tk27, ⟨Tri.none_all, ⟨Tri.none_all, ⟨Tri.some_all tk139, trivial, trivial⟩, trivial⟩, trivial⟩, ⟨Tri.some_all tk59, trivial, ⟨Tri.none_all, trivial, ⟨Tri.some_all tk251, trivial, trivial⟩⟩⟩⟩⟩⟩, ⟨Tri.some_all tk5, ⟨Tri.some_all tk9, ⟨Tri.none_all, ⟨Tri.none_all, trivial, ⟨Tri.none_all, ⟨Tri.some_all tk161, trivial, trivial⟩, trivial⟩⟩, ⟨Tri.some_all tk49, trivial, ⟨Tri.some_all tk113, trivial, trivial⟩⟩⟩, ⟨Tri.none_all, trivial, ⟨Tri.some_all tk57, trivial, trivial⟩⟩⟩, ⟨Tri.none_all, ⟨Tri.none_all, ⟨Tri.none_all, trivial, ⟨Tri.none_all, ⟨Tri.some_all tk165, trivial, trivial⟩, trivial⟩⟩, ⟨Tri.some_all tk53, trivial, trivial⟩⟩, ⟨Tri.some_all tk29, ⟨Tri.none_all, trivial, ⟨Tri.some_all tk109, trivial, trivial⟩⟩, ⟨Tri.none_all, ⟨Tri.none_all, trivial, ⟨Tri.none_all, ⟨Tri.some_all tk349, trivial, trivial⟩, trivial⟩⟩, trivial⟩⟩⟩⟩⟩, ⟨Tri.none_all, ⟨Tri.some_all tk4, ⟨Tri.none_all, ⟨Tri.none_all, ⟨Tri.some_all tk32, trivial, trivial⟩, ⟨Tri.some_all tk48, trivial, trivial⟩⟩, ⟨Tri.some_all tk24, ⟨Tri.some_all tk40, ⟨Tri.none_all, trivial, ⟨Tri.some_all tk200, trivial, trivial⟩⟩, trivial⟩, trivial⟩⟩, ⟨Tri.none_all, ⟨Tri.none_all, ⟨Tri.some_all tk36, ⟨Tri.none_all, ⟨Tri.some_all tk132, trivial, trivial⟩, trivial⟩, trivial⟩, ⟨Tri.some_all tk52, trivial, ⟨Tri.some_all tk116, trivial, ⟨Tri.some_all tk244, trivial, trivial⟩⟩⟩⟩, ⟨Tri.some_all tk28, ⟨Tri.some_all tk44, trivial, ⟨Tri.some_all tk108, trivial, trivial⟩⟩, ⟨Tri.none_all, ⟨Tri.none_all, ⟨Tri.some_all tk156, trivial, trivial⟩, trivial⟩, trivial⟩⟩⟩⟩, ⟨Tri.none_all, ⟨Tri.none_all, ⟨Tri.none_all, ⟨Tri.some_all tk34, trivial, trivial⟩, ⟨Tri.none_all, trivial, ⟨Tri.none_all, trivial, ⟨Tri.some_all tk242, trivial, trivial⟩⟩⟩⟩, ⟨Tri.some_all tk26, ⟨Tri.some_all tk42, trivial, ⟨Tri.none_all, ⟨Tri.some_all tk170, trivial, trivial⟩, trivial⟩⟩, ⟨Tri.none_all, ⟨Tri.none_all, trivial, ⟨Tri.none_all, ⟨Tri.some_all tk346, trivial, trivial⟩, trivial⟩⟩, trivial⟩⟩⟩, ⟨Tri.none_all, ⟨Tri.some_all tk22, ⟨Tri.none_all, ⟨Tri.some_all tk70, trivial, ⟨Tri.some_all tk198, trivial, trivial⟩⟩, trivial⟩, ⟨Tri.none_all, ⟨Tri.none_all, trivial, ⟨Tri.none_all, ⟨Tri.some_all tk342, trivial, trivial⟩, trivial⟩⟩, trivial⟩⟩, ⟨Tri.some_all tk30, trivial, ⟨Tri.none_all, ⟨Tri.some_all tk94, trivial, trivial⟩, trivial⟩⟩⟩⟩⟩⟩
theorem eT_ok : eT.All (EqP Go.Proofs.Tryz.prog) id := ⟨Tri.none_all, ⟨Tri.none_all, ⟨Tri.none_all, ⟨Tri.none_all, ⟨Tri.none_all, trivial, ⟨Tri.none_all, trivial, ⟨Tri.none_all, ⟨Tri.none_all, ⟨Tri.some_all ek303, trivial, trivial⟩, trivial⟩, trivial⟩⟩⟩, ⟨Tri.none_all, trivial, ⟨Tri.some_all ek55, trivial, trivial⟩⟩⟩, ⟨Tri.none_all, trivial, ⟨Tri.none_all, trivial, ⟨Tri.none_all, trivial, ⟨Tri.none_all, trivial, ⟨Tri.some_all ek251, trivial, trivial⟩⟩⟩⟩⟩⟩, trivial⟩, ⟨Tri.none_all, ⟨Tri.none_all, ⟨Tri.none_all, ⟨Tri.none_all, trivial, ⟨Tri.some_all ek48, trivial, trivial⟩⟩, ⟨Tri.none_all, ⟨Tri.some_all ek40, trivial, trivial⟩, trivial⟩⟩, ⟨Tri.none_all, ⟨Tri.none_all, ⟨Tri.none_all, ⟨Tri.none_all, ⟨Tri.some_all ek132, trivial, trivial⟩, trivial⟩, trivial⟩, ⟨Tri.none_all, trivial, ⟨Tri.some_all ek116, trivial, trivial⟩⟩⟩, trivial⟩⟩, ⟨Tri.none_all, ⟨Tri.none_all, ⟨Tri.none_all, trivial, ⟨Tri.none_all, trivial, ⟨Tri.none_all, trivial, ⟨Tri.some_all ek242, trivial, trivial⟩⟩⟩⟩, ⟨Tri.none_all, ⟨Tri.none_all, trivial, ⟨Tri.none_all, ⟨Tri.some_all ek170, trivial, trivial⟩, trivial⟩⟩, trivial⟩⟩, ⟨Tri.none_all, ⟨Tri.none_all, trivial, ⟨Tri.none_all, ⟨Tri.none_all, trivial, ⟨Tri.none_all, ⟨Tri.some_all ek342, trivial, trivial⟩, trivial⟩⟩, trivial⟩⟩, ⟨Tri.none_all, trivial, ⟨Tri.none_all, ⟨Tri.some_all ek94, trivial, trivial⟩, trivial⟩⟩⟩⟩⟩⟩
theorem mixed0 : Go.Proofs.Tryz.prog.follows .mixedOrders = true := by kernel_rfl
theorem XX_ok : EnvOk XX := ⟨fun t ti h => tT_ok.get t ti h, fun t ks h w xs ys r hr => eqTy_ok (eT_ok.get t ks h) w xs ys r hr, mixed0⟩
theorem eq (es : List Ent) (ha : AllOk XX es) {f : FuncId} {fn : Func} {c : Code} (hf : FnOk XX f fn c) {args : List AV} {S0 : List Blk} {r : AV} {S1 : List Blk}
    (h : isEnt ⟨f, args, S0, r, S1⟩ (runBody (tabO es) XX mdT rmT f fn c args S0) = true) : EntOk XX ⟨f, args, S0, r, S1⟩ := ent_quick XX_ok ha hf h
theorem fn11 : FnOk XX 11 Go.Proofs.Tryz.f11 (bodyOf Go.Proofs.Tryz.f11) := ⟨Go.Proofs.Tryz.func11, by kernel_rfl, by kernel_rfl, by decide +kernel⟩
theorem fn29 : FnOk XX 29 Go.Proofs.Tryz.f29 (bodyOf Go.Proofs.Tryz.f29) := ⟨Go.Proofs.Tryz.func29, by kernel_rfl, by kernel_rfl, by decide +kernel⟩
theorem fn32 : FnOk XX 32 Go.Proofs.Tryz.f32 (bodyOf Go.Proofs.Tryz.f32) := ⟨Go.Proofs.Tryz.func32, by kernel_rfl, by kernel_rfl, by decide +kernel⟩
theorem fn36 : FnOk XX 36 Go.Proofs.Tryz.f36 (bodyOf Go.Proofs.Tryz.f36) := ⟨Go.Proofs.Tryz.func36, by kernel_rfl, by kernel_rfl, by decide +kernel⟩
theorem fn37 : FnOk XX 37 Go.Proofs.Tryz.f37 (bodyOf Go.Proofs.Tryz.f37) := ⟨Go.Proofs.Tryz.func37, by kernel_rfl, by kernel_rfl, by decide +kernel⟩
theorem fn40 : FnOk XX 40 Go.Proofs.Tryz.f40 (bodyOf Go.Proofs.Tryz.f40) := ⟨Go.Proofs.Tryz.func40, by kernel_rfl, by kernel_rfl, by decide +kernel⟩
theorem fn41 : FnOk XX 41 Go.Proofs.Tryz.f41 (bodyOf Go.Proofs.Tryz.f41) := ⟨Go.Proofs.Tryz.func41, by kernel_rfl, by kernel_rfl, by decide +kernel⟩
theorem fn43 : FnOk XX 43 Go.Proofs.Tryz.f43 (bodyOf Go.Proofs.Tryz.f43) := ⟨Go.Proofs.Tryz.func43, by kernel_rfl, by kernel_rfl, by decide +kernel⟩
theorem fn45 : FnOk XX 45 Go.Proofs.Tryz.f45 (bodyOf Go.Proofs.Tryz.f45) := ⟨Go.Proofs.Tryz.func45, by kernel_rfl, by kernel_rfl, by decide +kernel⟩
theorem fn47 : FnOk XX 47 Go.Proofs.Tryz.f47 (bodyOf Go.Proofs.Tryz.f47) := ⟨Go.Proofs.Tryz.func47, by kernel_rfl, by kernel_rfl, by decide +kernel⟩
theorem fn48 : FnOk XX 48 Go.Proofs.Tryz.f48 (bodyOf Go.Proofs.Tryz.f48) := ⟨Go.Proofs.Tryz.func48, by kernel_rfl, by kernel_rfl, by decide +kernel⟩
theorem fn53 : FnOk XX 53 Go.Proofs.Tryz.f53 (bodyOf Go.Proofs.Tryz.f53) := ⟨Go.Proofs.Tryz.func53, by kernel_rfl, by kernel_rfl, by decide +kernel⟩
theorem fn54 : FnOk XX 54 Go.Proofs.Tryz.f54 (bodyOf Go.Proofs.Tryz.f54) := ⟨Go.Proofs.Tryz.func54, by kernel_rfl, by kernel_rfl, by decide +kernel⟩
theorem fn55 : FnOk XX 55 Go.Proofs.Tryz.f55 (bodyOf Go.Proofs.Tryz.f55) := ⟨Go.Proofs.Tryz.func55, by kernel_rfl, by kernel_rfl, by decide +kernel⟩
theorem fn63 : FnOk XX 63 Go.Proofs.Tryz.f63 (bodyOf Go.Proofs.Tryz.f63) := ⟨Go.Proofs.Tryz.func63, by kernel_rfl, by kernel_rfl, by decide +kernel⟩
theorem fn75 : FnOk XX 75 Go.Proofs.Tryz.f75 (bodyOf Go.Proofs.Tryz.f75) := ⟨Go.Proofs.Tryz.func75, by kernel_rfl, by kernel_rfl, by decide +kernel⟩
theorem fn76 : FnOk XX 76 Go.Proofs.Tryz.f76 (bodyOf Go.Proofs.Tryz.f76) := ⟨Go.Proofs.Tryz.func76, by kernel_rfl, by kernel_rfl, by decide +kernel⟩
theorem fn79 : FnOk XX 79 Go.Proofs.Tryz.f79 (bodyOf Go.Proofs.Tryz.f79) := ⟨Go.Proofs.Tryz.func79, by kernel_rfl, by kernel_rfl, by decide +kernel⟩
theorem fn80 : FnOk XX 80 Go.Proofs.Tryz.f80 (bodyOf Go.Proofs.Tryz.f80) := ⟨Go.Proofs.Tryz.func80, by kernel_rfl, by kernel_rfl, by decide +kernel⟩
theorem fn85 : FnOk XX 85 Go.Proofs.Tryz.f85 (bodyOf Go.Proofs.Tryz.f85) := ⟨Go.Proofs.Tryz.func85, by kernel_rfl, by kernel_rfl, by decide +kernel⟩
theorem fn86 : FnOk XX 86 Go.Proofs.Tryz.f86 (bodyOf Go.Proofs.Tryz.f86) := ⟨Go.Proofs.Tryz.func86, by kernel_rfl, by kernel_rfl, by decide +kernel⟩
theorem fn96 : FnOk XX 96 Go.Proofs.Tryz.f96 (bodyOf Go.Proofs.Tryz.f96) := ⟨Go.Proofs.Tryz.func96, by kernel_rfl, by kernel_rfl, by decide +kernel⟩
theorem fn102 : FnOk XX 102 Go.Proofs.Tryz.f102 (bodyOf Go.Proofs.Tryz.f102) := ⟨Go.Proofs.Tryz.func102, by kernel_rfl, by kernel_rfl, by decide +kernel⟩
theorem fn103 : FnOk XX 103 Go.Proofs.Tryz.f103 (bodyOf Go.Proofs.Tryz.f103) := ⟨Go.Proofs.Tryz.func103, by kernel_rfl, by kernel_rfl, by decide +kernel⟩
theorem fn104 : FnOk XX 104 Go.Proofs.Tryz.f104 (bodyOf Go.Proofs.Tryz.f104) := ⟨Go.Proofs.Tryz.func104, by kernel_rfl, by kernel_rfl, by decide +kernel⟩
theorem fn105 : FnOk XX 105 Go.Proofs.Tryz.f105 (bodyOf Go.Proofs.Tryz.f105) := ⟨Go.Proofs.Tryz.func105, by kernel_rfl, by kernel_rfl, by decide +kernel⟩
theorem fn107 : FnOk XX 107 Go.Proofs.Tryz.f107 (bodyOf Go.Proofs.Tryz.f107) := ⟨Go.Proofs.Tryz.func107, by kernel_rfl, by kernel_rfl, by decide +kernel⟩
theorem fn112 : FnOk XX 112 Go.Proofs.Tryz.f112 (bodyOf Go.Proofs.Tryz.f112) := ⟨Go.Proofs.Tryz.func112, by kernel_rfl, by kernel_rfl, by decide +kernel⟩
theorem fn127 : FnOk XX 127 Go.Proofs.Tryz.f127 (bodyOf Go.Proofs.Tryz.f127) := ⟨Go.Proofs.Tryz.func127, by kernel_rfl, by kernel_rfl, by decide +kernel⟩
theorem fn128 : FnOk XX 128 Go.Proofs.Tryz.f128 (bodyOf Go.Proofs.Tryz.f128) := ⟨Go.Proofs.Tryz.func128, by kernel_rfl, by kernel_rfl, by decide +kernel⟩
theorem fn129 : FnOk XX 129 Go.Proofs.Tryz.f129 (bodyOf Go.Proofs.Tryz.f129) := ⟨Go.Proofs.Tryz.func129, by kernel_rfl, by kernel_rfl, by decide +kernel⟩
theorem fn130 : FnOk XX 130 Go.Proofs.Tryz.f130 (bodyOf Go.Proofs.Tryz.f130) := ⟨Go.Proofs.Tryz.func130, by kernel_rfl, by kernel_rfl, by decide +kernel⟩
theorem fn131 : FnOk XX 131 Go.Proofs.Tryz.f131 (bodyOf Go.Proofs.Tryz.f131) := ⟨Go.Proofs.Tryz.func131, by kernel_rfl, by kernel_rfl, by decide +kernel⟩
theorem fn132 : FnOk XX 132 Go.Proofs.Tryz.f132 (bodyOf Go.Proofs.Tryz.f132) := ⟨Go.Proofs.Tryz.func132, by kernel_rfl, by kernel_rfl, by decide +kernel⟩
theorem fn133 : FnOk XX 133 Go.Proofs.Tryz.f133 (bodyOf Go.Proofs.Tryz.f133) := ⟨Go.Proofs.Tryz.func133, by kernel_rfl, by kernel_rfl, by decide +kernel⟩
theorem fn134 : FnOk XX 134 Go.Proofs.Tryz.f134 (bodyOf Go.Proofs.Tryz.f134) := ⟨Go.Proofs.Tryz.func134, by kernel_rfl, by kernel_rfl, by decide +kernel⟩
theorem fn141 : FnOk XX 141 Go.Proofs.Tryz.f141 (bodyOf Go.Proofs.Tryz.f141) := ⟨Go.Proofs.Tryz.func141, by kernel_rfl, by kernel_rfl, by decide +kernel⟩
theorem fn143 : FnOk XX 143 Go.Proofs.Tryz.f143 (bodyOf Go.Proofs.Tryz.f143) := ⟨Go.Proofs.Tryz.func143, by kernel_rfl, by kernel_rfl, by decide +kernel⟩
theorem fn144 : FnOk XX 144 Go.Proofs.Tryz.f144 (bodyOf Go.Proofs.Tryz.f144) := ⟨Go.Proofs.Tryz.func144, by kernel_rfl, by kernel_rfl, by decide +kernel⟩
theorem fn145 : FnOk XX 145 Go.Proofs.Tryz.f145 (bodyOf Go.Proofs.Tryz.f145) := ⟨Go.Proofs.Tryz.func145, by kernel_rfl, by kernel_rfl, by decide +kernel⟩
theorem fn146 : FnOk XX 146 Go.Proofs.Tryz.f146 (bodyOf Go.Proofs.Tryz.f146) := ⟨Go.Proofs.Tryz.func146, by kernel_rfl, by kernel_rfl, by decide +kernel⟩
theorem fn147 : FnOk XX 147 Go.Proofs.Tryz.f147 (bodyOf Go.Proofs.Tryz.f147) := ⟨Go.Proofs.Tryz.func147, by kernel_rfl, by kernel_rfl, by decide +kernel⟩
theorem fn148 : FnOk XX 148 Go.Proofs.Tryz.f148 (bodyOf Go.Proofs.Tryz.f148) := ⟨Go.Proofs.Tryz.func148, by kernel_rfl, by kernel_rfl, by decide +kernel⟩
theorem fn149 : FnOk XX 149 Go.Proofs.Tryz.f149 (bodyOf Go.Proofs.Tryz.f149) := ⟨Go.Proofs.Tryz.func149, by kernel_rfl, by kernel_rfl, by decide +kernel⟩
theorem fn150 : FnOk XX 150 Go.Proofs.Tryz.f150 (bodyOf Go.Proofs.Tryz.f150) := ⟨Go.Proofs.Tryz.func150, by kernel_rfl, by kernel_rfl, by decide +kernel⟩
theorem fn154 : FnOk XX 154 Go.Proofs.Tryz.f154 (bodyOf Go.Proofs.Tryz.f154) := ⟨Go.Proofs.Tryz.func154, by kernel_rfl, by kernel_rfl, by decide +kernel⟩
theorem fn155 : FnOk XX 155 Go.Proofs.Tryz.f155 (bodyOf Go.Proofs.Tryz.f155) := ⟨Go.Proofs.Tryz.func155, by kernel_rfl, by kernel_rfl, by decide +kernel⟩
theorem fn166 : FnOk XX 166 Go.Proofs.Tryz.f166 (bodyOf Go.Proofs.Tryz.f166) := ⟨Go.Proofs.Tryz.func166, by kernel_rfl, by kernel_rfl, by decide +kernel⟩
theorem fn172 : FnOk XX 172 Go.Proofs.Tryz.f172 (bodyOf Go.Proofs.Tryz.f172) := ⟨Go.Proofs.Tryz.func172, by kernel_rfl, by kernel_rfl, by decide +kernel⟩
theorem fn173 : FnOk XX 173 Go.Proofs.Tryz.f173 (bodyOf Go.Proofs.Tryz.f173) := ⟨Go.Proofs.Tryz.func173, by kernel_rfl, by kernel_rfl, by decide +kernel⟩
theorem fn177 : FnOk XX 177 Go.Proofs.Tryz.f177 (bodyOf Go.Proofs.Tryz.f177) := ⟨Go.Proofs.Tryz.func177, by kernel_rfl, by kernel_rfl, by decide +kernel⟩
theorem fn178 : FnOk XX 178 Go.Proofs.Tryz.f178 (bodyOf Go.Proofs.Tryz.f178) := ⟨Go.Proofs.Tryz.func178, by kernel_rfl, by kernel_rfl, by decide +kernel⟩
theorem fn179 : FnOk XX 179 Go.Proofs.Tryz.f179 (bodyOf Go.Proofs.Tryz.f179) := ⟨Go.Proofs.Tryz.func179, by kernel_rfl, by kernel_rfl, by decide +kernel⟩
theorem fn180 : FnOk XX 180 Go.Proofs.Tryz.f180 (bodyOf Go.Proofs.Tryz.f180) := ⟨Go.Proofs.Tryz.func180, by kernel_rfl, by kernel_rfl, by decide +kernel⟩
theorem fn181 : FnOk XX 181 Go.Proofs.Tryz.f181 (bodyOf Go.Proofs.Tryz.f181) := ⟨Go.Proofs.Tryz.func181, by kernel_rfl, by kernel_rfl, by decide +kernel⟩
theorem fn182 : FnOk XX 182 Go.Proofs.Tryz.f182 (bodyOf Go.Proofs.Tryz.f182) := ⟨Go.Proofs.Tryz.func182, by kernel_rfl, by kernel_rfl, by decide +kernel⟩
theorem fn183 : FnOk XX 183 Go.Proofs.Tryz.f183 (bodyOf Go.Proofs.Tryz.f183) := ⟨Go.Proofs.Tryz.func183, by kernel_rfl, by kernel_rfl, by decide +kernel⟩
theorem fn184 : FnOk XX 184 Go.Proofs.Tryz.f184 (bodyOf Go.Proofs.Tryz.f184) := ⟨Go.Proofs.Tryz.func184, by kernel_rfl, by kernel_rfl, by decide +kernel⟩
theorem fn199 : FnOk XX 199 Go.Proofs.Tryz.f199 (bodyOf Go.Proofs.Tryz.f199) := ⟨Go.Proofs.Tryz.func199, by kernel_rfl, by kernel_rfl, by decide +kernel⟩
theorem fn211 : FnOk XX 211 Go.Proofs.Tryz.f211 (bodyOf Go.Proofs.Tryz.f211) := ⟨Go.Proofs.Tryz.func211, by kernel_rfl, by kernel_rfl, by decide +kernel⟩
theorem fn212 : FnOk XX 212 Go.Proofs.Tryz.f212 (bodyOf Go.Proofs.Tryz.f212) := ⟨Go.Proofs.Tryz.func212, by kernel_rfl, by kernel_rfl, by decide +kernel⟩
theorem fn213 : FnOk XX 213 Go.Proofs.Tryz.f213 (bodyOf Go.Proofs.Tryz.f213) := ⟨Go.Proofs.Tryz.func213, by kernel_rfl, by kernel_rfl, by decide +kernel⟩
theorem fn214 : FnOk XX 214 Go.Proofs.Tryz.f214 (bodyOf Go.Proofs.Tryz.f214) := ⟨Go.Proofs.Tryz.func214, by kernel_rfl, by kernel_rfl, by decide +kernel⟩
theorem fn215 : FnOk XX 215 Go.Proofs.Tryz.f215 (bodyOf Go.Proofs.Tryz.f215) := ⟨Go.Proofs.Tryz.func215, by kernel_rfl, by kernel_rfl, by decide +kernel⟩
theorem fn216 : FnOk XX 216 Go.Proofs.Tryz.f216 (bodyOf Go.Proofs.Tryz.f216) := ⟨Go.Proofs.Tryz.func216, by kernel_rfl, by kernel_rfl, by decide +kernel⟩
theorem fn220 : FnOk XX 220 Go.Proofs.Tryz.f220 (bodyOf Go.Proofs.Tryz.f220) := ⟨Go.Proofs.Tryz.func220, by kernel_rfl, by kernel_rfl, by decide +kernel⟩
theorem fn221 : FnOk XX 221 Go.Proofs.Tryz.f221 (bodyOf Go.Proofs.Tryz.f221) := ⟨Go.Proofs.Tryz.func221, by kernel_rfl, by kernel_rfl, by decide +kernel⟩
theorem fn222 : FnOk XX 222 Go.Proofs.Tryz.f222 (bodyOf Go.Proofs.Tryz.f222) := ⟨Go.Proofs.Tryz.func222, by kernel_rfl, by kernel_rfl, by decide +kernel⟩
theorem fn223 : FnOk XX 223 Go.Proofs.Tryz.f223 (bodyOf Go.Proofs.Tryz.f223) := ⟨Go.Proofs.Tryz.func223, by kernel_rfl, by kernel_rfl, by decide +kernel⟩
theorem fn224 : FnOk XX 224 Go.Proofs.Tryz.f224 (bodyOf Go.Proofs.Tryz.f224) := ⟨Go.Proofs.Tryz.func224, by kernel_rfl, by kernel_rfl, by decide +kernel⟩
theorem fn227 : FnOk XX 227 Go.Proofs.Tryz.f227 (bodyOf Go.Proofs.Tryz.f227) := ⟨Go.Proofs.Tryz.func227, by kernel_rfl, by kernel_rfl, by decide +kernel⟩
theorem fn230 : FnOk XX 230 Go.Proofs.Tryz.f230 (bodyOf Go.Proofs.Tryz.f230) := ⟨Go.Proofs.Tryz.func230, by kernel_rfl, by kernel_rfl, by decide +kernel⟩
theorem fn231 : FnOk XX 231 Go.Proofs.Tryz.f231 (bodyOf Go.Proofs.Tryz.f231) := ⟨Go.Proofs.Tryz.func231, by kernel_rfl, by kernel_rfl, by decide +kernel⟩
theorem fn232 : FnOk XX 232 Go.Proofs.Tryz.f232 (bodyOf Go.Proofs.Tryz.f232) := ⟨Go.Proofs.Tryz.func232, by kernel_rfl, by kernel_rfl, by decide +kernel⟩
theorem fn244 : FnOk XX 244 Go.Proofs.Tryz.f244 (bodyOf Go.Proofs.Tryz.f244) := ⟨Go.Proofs.Tryz.func244, by kernel_rfl, by kernel_rfl, by decide +kernel⟩
theorem fn245 : FnOk XX 245 Go.Proofs.Tryz.f245 (bodyOf Go.Proofs.Tryz.f245) := ⟨Go.Proofs.Tryz.func245, by kernel_rfl, by kernel_rfl, by decide +kernel⟩
theorem fn246 : FnOk XX 246 Go.Proofs.Tryz.f246 (bodyOf Go.Proofs.Tryz.f246) := ⟨Go.Proofs.Tryz.func246, by kernel_rfl, by kernel_rfl, by decide +kernel⟩
theorem fn247 : FnOk XX 247 Go.Proofs.Tryz.f247 (bodyOf Go.Proofs.Tryz.f247) := ⟨Go.Proofs.Tryz.func247, by kernel_rfl, by kernel_rfl, by decide +kernel⟩
theorem fn248 : FnOk XX 248 Go.Proofs.Tryz.f248 (bodyOf Go.Proofs.Tryz.f248) := ⟨Go.Proofs.Tryz.func248, by kernel_rfl, by kernel_rfl, by decide +kernel⟩
theorem fn249 : FnOk XX 249 Go.Proofs.Tryz.f249 (bodyOf Go.Proofs.Tryz.f249) := ⟨Go.Proofs.Tryz.func249, by kernel_rfl, by kernel_rfl, by decide +kernel⟩
theorem fn250 : FnOk XX 250 Go.Proofs.Tryz.f250 (bodyOf Go.Proofs.Tryz.f250) := ⟨Go.Proofs.Tryz.func250, by kernel_rfl, by kernel_rfl, by decide +kernel⟩
theorem fn251 : FnOk XX 251 Go.Proofs.Tryz.f251 (bodyOf Go.Proofs.Tryz.f251) := ⟨Go.Proofs.Tryz.func251, by kernel_rfl, by kernel_rfl, by decide +kernel⟩
theorem fn252 : FnOk XX 252 Go.Proofs.Tryz.f252 (bodyOf Go.Proofs.Tryz.f252) := ⟨Go.Proofs.Tryz.func252, by kernel_rfl, by kernel_rfl, by decide +kernel⟩
theorem fn280 : FnOk XX 280 Go.Proofs.Tryz.f280 (bodyOf Go.Proofs.Tryz.f280) := ⟨Go.Proofs.Tryz.func280, by kernel_rfl, by kernel_rfl, by decide +kernel⟩
theorem fn281 : FnOk XX 281 Go.Proofs.Tryz.f281 (bodyOf Go.Proofs.Tryz.f281) := ⟨Go.Proofs.Tryz.func281, by kernel_rfl, by kernel_rfl, by decide +kernel⟩
theorem fn282 : FnOk XX 282 Go.Proofs.Tryz.f282 (bodyOf Go.Proofs.Tryz.f282) := ⟨Go.Proofs.Tryz.func282, by kernel_rfl, by kernel_rfl, by decide +kernel⟩
theorem fn283 : FnOk XX 283 Go.Proofs.Tryz.f283 (bodyOf Go.Proofs.Tryz.f283) := ⟨Go.Proofs.Tryz.func283, by kernel_rfl, by kernel_rfl, by decide +kernel⟩
theorem fn284 : FnOk XX 284 Go.Proofs.Tryz.f284 (bodyOf Go.Proofs.Tryz.f284) := ⟨Go.Proofs.Tryz.func284, by kernel_rfl, by kernel_rfl, by decide +kernel⟩
theorem fn290 : FnOk XX 290 Go.Proofs.Tryz.f290 (bodyOf Go.Proofs.Tryz.f290) := ⟨Go.Proofs.Tryz.func290, by kernel_rfl, by kernel_rfl, by decide +kernel⟩
theorem fn292 : FnOk XX 292 Go.Proofs.Tryz.f292 (bodyOf Go.Proofs.Tryz.f292) := ⟨Go.Proofs.Tryz.func292, by kernel_rfl, by kernel_rfl, by decide +kernel⟩
theorem fn293 : FnOk XX 293 Go.Proofs.Tryz.f293 (bodyOf Go.Proofs.Tryz.f293) := ⟨Go.Proofs.Tryz.func293, by kernel_rfl, by kernel_rfl, by decide +kernel⟩
theorem fn296 : FnOk XX 296 Go.Proofs.Tryz.f296 (bodyOf Go.Proofs.Tryz.f296) := ⟨Go.Proofs.Tryz.func296, by kernel_rfl, by kernel_rfl, by decide +kernel⟩
theorem fn297 : FnOk XX 297 Go.Proofs.Tryz.f297 (bodyOf Go.Proofs.Tryz.f297) := ⟨Go.Proofs.Tryz.func297, by kernel_rfl, by kernel_rfl, by decide +kernel⟩
theorem fn298 : FnOk XX 298 Go.Proofs.Tryz.f298 (bodyOf Go.Proofs.Tryz.f298) := ⟨Go.Proofs.Tryz.func298, by kernel_rfl, by kernel_rfl, by decide +kernel⟩
theorem fn300 : FnOk XX 300 Go.Proofs.Tryz.f300 (bodyOf Go.Proofs.Tryz.f300) := ⟨Go.Proofs.Tryz.func300, by kernel_rfl, by kernel_rfl, by decide +kernel⟩
theorem fn304 : FnOk XX 304 Go.Proofs.Tryz.f304 (bodyOf Go.Proofs.Tryz.f304) := ⟨Go.Proofs.Tryz.func304, by kernel_rfl, by kernel_rfl, by decide +kernel⟩
theorem fn305 : FnOk XX 305 Go.Proofs.Tryz.f305 (bodyOf Go.Proofs.Tryz.f305) := ⟨Go.Proofs.Tryz.func305, by kernel_rfl, by kernel_rfl, by decide +kernel⟩
theorem fn306 : FnOk XX 306 Go.Proofs.Tryz.f306 (bodyOf Go.Proofs.Tryz.f306) := ⟨Go.Proofs.Tryz.func306, by kernel_rfl, by kernel_rfl, by decide +kernel⟩
theorem fn307 : FnOk XX 307 Go.Proofs.Tryz.f307 (bodyOf Go.Proofs.Tryz.f307) := ⟨Go.Proofs.Tryz.func307, by kernel_rfl, by kernel_rfl, by decide +kernel⟩
theorem fn308 : FnOk XX 308 Go.Proofs.Tryz.f308 (bodyOf Go.Proofs.Tryz.f308) := ⟨Go.Proofs.Tryz.func308, by kernel_rfl, by kernel_rfl, by decide +kernel⟩
theorem fn309 : FnOk XX 309 Go.Proofs.Tryz.f309 (bodyOf Go.Proofs.Tryz.f309) := ⟨Go.Proofs.Tryz.func309, by kernel_rfl, by kernel_rfl, by decide +kernel⟩
theorem fn310 : FnOk XX 310 Go.Proofs.Tryz.f310 (bodyOf Go.Proofs.Tryz.f310) := ⟨Go.Proofs.Tryz.func310, by kernel_rfl, by kernel_rfl, by decide +kernel⟩
theorem fn343 : FnOk XX 343 Go.Proofs.Tryz.f343 (bodyOf Go.Proofs.Tryz.f343) := ⟨Go.Proofs.Tryz.func343, by kernel_rfl, by kernel_rfl, by decide +kernel⟩
theorem fn344 : FnOk XX 344 Go.Proofs.Tryz.f344 (bodyOf Go.Proofs.Tryz.f344) := ⟨Go.Proofs.Tryz.func344, by kernel_rfl, by kernel_rfl, by decide +kernel⟩
theorem fn345 : FnOk XX 345 Go.Proofs.Tryz.f345 (bodyOf Go.Proofs.Tryz.f345) := ⟨Go.Proofs.Tryz.func345, by kernel_rfl, by kernel_rfl, by decide +kernel⟩
theorem fn346 : FnOk XX 346 Go.Proofs.Tryz.f346 (bodyOf Go.Proofs.Tryz.f346) := ⟨Go.Proofs.Tryz.func346, by kernel_rfl, by kernel_rfl, by decide +kernel⟩
theorem fn347 : FnOk XX 347 Go.Proofs.Tryz.f347 (bodyOf Go.Proofs.Tryz.f347) := ⟨Go.Proofs.Tryz.func347, by kernel_rfl, by kernel_rfl, by decide +kernel⟩
theorem fn348 : FnOk XX 348 Go.Proofs.Tryz.f348 (bodyOf Go.Proofs.Tryz.f348) := ⟨Go.Proofs.Tryz.func348, by kernel_rfl, by kernel_rfl, by decide +kernel⟩
theorem fn349 : FnOk XX 349 Go.Proofs.Tryz.f349 (bodyOf Go.Proofs.Tryz.f349) := ⟨Go.Proofs.Tryz.func349, by kernel_rfl, by kernel_rfl, by decide +kernel⟩
theorem fn355 : FnOk XX 355 Go.Proofs.Tryz.f355 (bodyOf Go.Proofs.Tryz.f355) := ⟨Go.Proofs.Tryz.func355, by kernel_rfl, by kernel_rfl, by decide +kernel⟩
theorem fn358 : FnOk XX 358 Go.Proofs.Tryz.f358 (bodyOf Go.Proofs.Tryz.f358) := ⟨Go.Proofs.Tryz.func358, by kernel_rfl, by kernel_rfl, by decide +kernel⟩
theorem fn359 : FnOk XX 359 Go.Proofs.Tryz.f359 (bodyOf Go.Proofs.Tryz.f359) := ⟨Go.Proofs.Tryz.func359, by kernel_rfl, by kernel_rfl, by decide +kernel⟩
theorem fn361 : FnOk XX 361 Go.Proofs.Tryz.f361 (bodyOf Go.Proofs.Tryz.f361) := ⟨Go.Proofs.Tryz.func361, by kernel_rfl, by kernel_rfl, by decide +kernel⟩
theorem fn362 : FnOk XX 362 Go.Proofs.Tryz.f362 (bodyOf Go.Proofs.Tryz.f362) := ⟨Go.Proofs.Tryz.func362, by kernel_rfl, by kernel_rfl, by decide +kernel⟩
theorem fn369 : FnOk XX 369 Go.Proofs.Tryz.f369 (bodyOf Go.Proofs.Tryz.f369) := ⟨Go.Proofs.Tryz.func369, by kernel_rfl, by kernel_rfl, by decide +kernel⟩
theorem fn370 : FnOk XX 370 Go.Proofs.Tryz.f370 (bodyOf Go.Proofs.Tryz.f370) := ⟨Go.Proofs.Tryz.func370, by kernel_rfl, by kernel_rfl, by decide +kernel⟩
theorem fn371 : FnOk XX 371 Go.Proofs.Tryz.f371 (bodyOf Go.Proofs.Tryz.f371) := ⟨Go.Proofs.Tryz.func371, by kernel_rfl, by kernel_rfl, by decide +kernel⟩
theorem fn377 : FnOk XX 377 Go.Proofs.Tryz.f377 (bodyOf Go.Proofs.Tryz.f377) := ⟨Go.Proofs.Tryz.func377, by kernel_rfl, by kernel_rfl, by decide +kernel⟩
theorem fn378 : FnOk XX 378 Go.Proofs.Tryz.f378 (bodyOf Go.Proofs.Tryz.f378) := ⟨Go.Proofs.Tryz.func378, by kernel_rfl, by kernel_rfl, by decide +kernel⟩
theorem fn383 : FnOk XX 383 Go.Proofs.Tryz.f383 (bodyOf Go.Proofs.Tryz.f383) := ⟨Go.Proofs.Tryz.func383, by kernel_rfl, by kernel_rfl, by decide +kernel⟩
theorem fn384 : FnOk XX 384 Go.Proofs.Tryz.f384 (bodyOf Go.Proofs.Tryz.f384) := ⟨Go.Proofs.Tryz.func384, by kernel_rfl, by kernel_rfl, by decide +kernel⟩
theorem fn400 : FnOk XX 400 Go.Proofs.Tryz.f400 (bodyOf Go.Proofs.Tryz.f400) := ⟨Go.Proofs.Tryz.func400, by kernel_rfl, by kernel_rfl, by decide +kernel⟩
theorem fn401 : FnOk XX 401 Go.Proofs.Tryz.f401 (bodyOf Go.Proofs.Tryz.f401) := ⟨Go.Proofs.Tryz.func401, by kernel_rfl, by kernel_rfl, by decide +kernel⟩
theorem fn409 : FnOk XX 409 Go.Proofs.Tryz.f409 (bodyOf Go.Proofs.Tryz.f409) := ⟨Go.Proofs.Tryz.func409, by kernel_rfl, by kernel_rfl, by decide +kernel⟩
theorem fn410 : FnOk XX 410 Go.Proofs.Tryz.f410 (bodyOf Go.Proofs.Tryz.f410) := ⟨Go.Proofs.Tryz.func410, by kernel_rfl, by kernel_rfl, by decide +kernel⟩
theorem fn411 : FnOk XX 411 Go.Proofs.Tryz.f411 (bodyOf Go.Proofs.Tryz.f411) := ⟨Go.Proofs.Tryz.func411, by kernel_rfl, by kernel_rfl, by decide +kernel⟩
theorem fn418 : FnOk XX 418 Go.Proofs.Tryz.f418 (bodyOf Go.Proofs.Tryz.f418) := ⟨Go.Proofs.Tryz.func418, by kernel_rfl, by kernel_rfl, by decide +kernel⟩
theorem fn422 : FnOk XX 422 Go.Proofs.Tryz.f422 (bodyOf Go.Proofs.Tryz.f422) := ⟨Go.Proofs.Tryz.func422, by kernel_rfl, by kernel_rfl, by decide +kernel⟩
theorem fn428 : FnOk XX 428 Go.Proofs.Tryz.f428 (bodyOf Go.Proofs.Tryz.f428) := ⟨Go.Proofs.Tryz.func428, by kernel_rfl, by kernel_rfl, by decide +kernel⟩
theorem clone144 : Sem XX 144 [N0] [] (.own 0 0 0 0) [.arr false 0 3 []] := clone_nil
  (fun cap => runBody_ok XX_ok (F := tabO []) (tab_ok trivial) (md := mdT) (rmd := rmT) fn144 (by kernel_rfl)) (fun a cap => runBody_ok XX_ok (F := tabO []) (tab_ok trivial) (md := mdT) (rmd := rmT) fn144 (by kernel_rfl))
theorem clone145 : Sem XX 145 [N0] [] (.own 0 0 0 0) [.arr false 0 1 []] := clone_nil
  (fun cap => runBody_ok XX_ok (F := tabO []) (tab_ok trivial) (md := mdT) (rmd := rmT) fn145 (by kernel_rfl)) (fun a cap => runBody_ok XX_ok (F := tabO []) (tab_ok trivial) (md := mdT) (rmd := rmT) fn145 (by kernel_rfl))
theorem clone133 : Sem XX 133 [N0] [] (.own 0 0 0 0) [.arr false 0 1 []] := clone_nil
  (fun cap => runBody_ok XX_ok (F := tabO []) (tab_ok trivial) (md := mdT) (rmd := rmT) fn133 (by kernel_rfl)) (fun a cap => runBody_ok XX_ok (F := tabO []) (tab_ok trivial) (md := mdT) (rmd := rmT) fn133 (by kernel_rfl))
theorem clone284 : Sem XX 284 [N0] [] (.own 0 0 0 0) [.arr false 0 1 []] := clone_nil
  (fun cap => runBody_ok XX_ok (F := tabO []) (tab_ok trivial) (md := mdT) (rmd := rmT) fn284 (by kernel_rfl)) (fun a cap => runBody_ok XX_ok (F := tabO []) (tab_ok trivial) (md := mdT) (rmd := rmT) fn284 (by kernel_rfl))
theorem clone220 : Sem XX 220 [N0] [] (.own 0 0 0 0) [.arr false 0 3 []] := clone_nil
  (fun cap => runBody_ok XX_ok (F := tabO []) (tab_ok trivial) (md := mdT) (rmd := rmT) fn220 (by kernel_rfl)) (fun a cap => runBody_ok XX_ok (F := tabO []) (tab_ok trivial) (md := mdT) (rmd := rmT) fn220 (by kernel_rfl))
theorem clone221 : Sem XX 221 [N0] [] (.own 0 0 0 0) [.arr false 0 2 []] := clone_nil
  (fun cap => runBody_ok XX_ok (F := tabO []) (tab_ok trivial) (md := mdT) (rmd := rmT) fn221 (by kernel_rfl)) (fun a cap => runBody_ok XX_ok (F := tabO []) (tab_ok trivial) (md := mdT) (rmd := rmT) fn221 (by kernel_rfl))
theorem clone222 : Sem XX 222 [N0] [] (.own 0 0 0 0) [.arr false 0 5 []] := clone_nil
  (fun cap => runBody_ok XX_ok (F := tabO []) (tab_ok trivial) (md := mdT) (rmd := rmT) fn222 (by kernel_rfl)) (fun a cap => runBody_ok XX_ok (F := tabO []) (tab_ok trivial) (md := mdT) (rmd := rmT) fn222 (by kernel_rfl))
end Go.Pl.Aq
