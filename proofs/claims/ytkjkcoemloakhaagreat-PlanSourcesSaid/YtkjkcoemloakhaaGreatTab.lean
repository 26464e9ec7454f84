/- The tables of the loaded functions and types: each is what the program has. Printed by a program of my own; conditions: none. -/
import Derived.Test.YtkjkcoemloakhaaGreatEq
import Derived.Test.YtkjkcoemloakhaaGreatVae24
import Derived.Test.YtkjkcoemloakhaaGreatProg
import Derived.KernelRfl
namespace Go.Proofs.YtkjkcoemloakhaaGreat
open Go Go.Vae
set_option maxRecDepth 1000000
def Tryz.ti2 : TI := ⟨false, 1, [(.int .i64 0)], 8, .int .i64, false⟩
def Tryz.ti3 : TI := ⟨false, 1, [(.int .i64 0)], 8, .int .i64, false⟩
def Tryz.ti4 : TI := ⟨false, 1, [(.bool false)], 1, .bool, false⟩
def Tryz.ti5 : TI := ⟨false, 1, [(.int .u8 0)], 1, .int .u8, false⟩
def Tryz.ti9 : TI := ⟨false, 1, [(.string ⟨#[]⟩)], 16, .string, false⟩
def Tryz.ti23 : TI := ⟨false, 1, [(.slice none 0 0)], 24, .slice 75, false⟩
def Tryz.ti24 : TI := ⟨false, 1, [(.slice none 0 0)], 24, .slice 3, false⟩
def Tryz.ti25 : TI := ⟨false, 1, [(.slice none 0 0)], 24, .slice 9, false⟩
def Tryz.ti27 : TI := ⟨true, 3, [(.int .i64 0), (.int .i64 0), (.string ⟨#[]⟩)], 32, .struct [(3, 0), (2, 1), (9, 2)], true⟩
def Tryz.ti28 : TI := ⟨false, 1, [(.slice none 0 0)], 24, .slice 30, false⟩
def Tryz.ti30 : TI := ⟨true, 8, [(.int .i64 0), (.string ⟨#[]⟩), (.string ⟨#[]⟩), (.int .i64 0), (.int .i64 0), (.int .i64 0), (.string ⟨#[]⟩), (.slice none 0 0)], 104, .struct [(3, 0), (9, 1), (9, 2), (3, 3), (27, 4), (28, 7)], false⟩
def Tryz.ti32 : TI := ⟨true, 11, [(.slice none 0 0), (.slice none 0 0), (.slice none 0 0), (.int .i64 0), (.string ⟨#[]⟩), (.string ⟨#[]⟩), (.int .i64 0), (.int .i64 0), (.int .i64 0), (.string ⟨#[]⟩), (.slice none 0 0)], 176, .struct [(23, 0), (24, 1), (25, 2), (30, 3)], false⟩
def Tryz.ti33 : TI := ⟨false, 1, [(.slice none 0 0)], 24, .slice 35, false⟩
def Tryz.ti35 : TI := ⟨true, 13, [(.int .i64 0), (.int .i64 0), (.slice none 0 0), (.slice none 0 0), (.int .i64 0), (.string ⟨#[]⟩), (.string ⟨#[]⟩), (.int .i64 0), (.int .i64 0), (.int .i64 0), (.string ⟨#[]⟩), (.slice none 0 0), (.slice none 0 0)], 192, .struct [(3, 0), (3, 1), (24, 2), (28, 3), (30, 4), (33, 12)], false⟩
def Tryz.ti36 : TI := ⟨false, 1, [(.slice none 0 0)], 24, .slice 122, false⟩
def Tryz.ti37 : TI := ⟨false, 1, [(.slice none 0 0)], 24, .slice 25, false⟩
def Tryz.ti38 : TI := ⟨false, 1, [(.slice none 0 0)], 24, .slice 144, false⟩
def Tryz.ti40 : TI := ⟨true, 4, [(.slice none 0 0), (.slice none 0 0), (.slice none 0 0), (.slice none 0 0)], 96, .struct [(36, 0), (37, 1), (38, 2), (28, 3)], false⟩
def Tryz.ti41 : TI := ⟨false, 1, [(.slice none 0 0)], 24, .slice 28, false⟩
def Tryz.ti42 : TI := ⟨false, 1, [(.slice none 0 0)], 24, .slice 223, false⟩
def Tryz.ti43 : TI := ⟨false, 1, [(.slice none 0 0)], 24, .slice 225, false⟩
def Tryz.ti44 : TI := ⟨false, 1, [(.slice none 0 0)], 24, .slice 77, false⟩
def Tryz.ti45 : TI := ⟨false, 1, [(.slice none 0 0)], 24, .slice 227, false⟩
def Tryz.ti47 : TI := ⟨true, 22, [(.int .i64 0), (.string ⟨#[]⟩), (.slice none 0 0), (.slice none 0 0), (.slice none 0 0), (.slice none 0 0), (.slice none 0 0), (.slice none 0 0), (.slice none 0 0), (.slice none 0 0), (.int .i64 0), (.string ⟨#[]⟩), (.string ⟨#[]⟩), (.int .i64 0), (.int .i64 0), (.int .i64 0), (.string ⟨#[]⟩), (.slice none 0 0), (.slice none 0 0), (.slice none 0 0), (.int .i64 0), (.string ⟨#[]⟩)], 392, .struct [(3, 0), (9, 1), (40, 2), (41, 6), (42, 7), (43, 8), (44, 9), (30, 10), (28, 18), (45, 19), (3, 20), (9, 21)], false⟩
def Tryz.ti48 : TI := ⟨false, 1, [(.slice none 0 0)], 24, .slice 124, false⟩
def Tryz.ti49 : TI := ⟨false, 1, [(.slice none 0 0)], 24, .slice 104, false⟩
def Tryz.ti51 : TI := ⟨true, 26, [(.int .i64 0), (.string ⟨#[]⟩), (.slice none 0 0), (.slice none 0 0), (.slice none 0 0), (.slice none 0 0), (.slice none 0 0), (.slice none 0 0), (.slice none 0 0), (.slice none 0 0), (.int .i64 0), (.string ⟨#[]⟩), (.string ⟨#[]⟩), (.int .i64 0), (.int .i64 0), (.int .i64 0), (.string ⟨#[]⟩), (.slice none 0 0), (.slice none 0 0), (.slice none 0 0), (.int .i64 0), (.string ⟨#[]⟩), (.int .i64 0), (.slice none 0 0), (.slice none 0 0), (.slice none 0 0)], 472, .struct [(47, 0), (3, 22), (24, 23), (48, 24), (49, 25)], false⟩
def Tryz.ti65 : TI := ⟨false, 1, [(.slice none 0 0)], 24, .slice 49, false⟩
def Tryz.ti72 : TI := ⟨false, 1, [(.slice none 0 0)], 24, .slice 24, false⟩
def Tryz.ti73 : TI := ⟨false, 1, [(.slice none 0 0)], 24, .slice 115, false⟩
def Tryz.ti75 : TI := ⟨true, 5, [(.string ⟨#[]⟩), (.slice none 0 0), (.slice none 0 0), (.slice none 0 0), (.slice none 0 0)], 112, .struct [(9, 0), (36, 1), (72, 2), (73, 3), (28, 4)], false⟩
def Tryz.ti77 : TI := ⟨true, 2, [(.string ⟨#[]⟩), (.string ⟨#[]⟩)], 32, .struct [(9, 0), (9, 1)], false⟩
def Tryz.ti84 : TI := ⟨false, 1, [(.slice none 0 0)], 24, .slice 92, false⟩
def Tryz.ti86 : TI := ⟨false, 1, [(.pointer none)], 8, .other, false⟩
def Tryz.ti88 : TI := ⟨true, 27, [(.slice none 0 0), (.int .i64 0), (.string ⟨#[]⟩), (.slice none 0 0), (.slice none 0 0), (.slice none 0 0), (.slice none 0 0), (.slice none 0 0), (.slice none 0 0), (.slice none 0 0), (.slice none 0 0), (.int .i64 0), (.string ⟨#[]⟩), (.string ⟨#[]⟩), (.int .i64 0), (.int .i64 0), (.int .i64 0), (.string ⟨#[]⟩), (.slice none 0 0), (.slice none 0 0), (.slice none 0 0), (.int .i64 0), (.string ⟨#[]⟩), (.int .i64 0), (.slice none 0 0), (.slice none 0 0), (.slice none 0 0)], 496, .struct [(23, 0), (51, 1)], false⟩
def Tryz.ti92 : TI := ⟨true, 2, [(.int .i64 0), (.bool false)], 16, .struct [(3, 0), (4, 1)], false⟩
def Tryz.ti94 : TI := ⟨false, 1, [(.slice none 0 0)], 24, .slice 99, false⟩
def Tryz.ti99 : TI := ⟨true, 11, [(.bool false), (.int .i64 0), (.int .i64 0), (.int .i64 0), (.string ⟨#[]⟩), (.string ⟨#[]⟩), (.int .i64 0), (.int .i64 0), (.int .i64 0), (.string ⟨#[]⟩), (.slice none 0 0)], 128, .struct [(4, 0), (3, 1), (3, 2), (30, 3)], false⟩
def Tryz.ti104 : TI := ⟨false, 1, [(.slice none 0 0)], 24, .slice 27, false⟩
def Tryz.ti112 : TI := ⟨false, 1, [(.slice none 0 0)], 24, .slice 47, false⟩
def Tryz.ti115 : TI := ⟨true, 3, [(.slice none 0 0), (.int .i64 0), (.int .i64 0)], 40, .struct [(24, 0), (3, 1), (3, 2)], false⟩
def Tryz.ti118 : TI := ⟨false, 1, [(.int .i64 0)], 8, .int .i64, false⟩
def Tryz.ti122 : TI := ⟨true, 6, [(.string ⟨#[]⟩), (.int .i64 0), (.int .i64 0), (.int .i64 0), (.int .i64 0), (.bool false)], 56, .struct [(9, 0), (3, 1), (2, 2), (2, 3), (3, 4), (4, 5)], false⟩
def Tryz.ti124 : TI := ⟨true, 5, [(.int .i64 0), (.int .i64 0), (.int .i64 0), (.int .i64 0), (.bool false)], 40, .struct [(3, 0), (2, 1), (2, 2), (3, 3), (4, 4)], false⟩
def Tryz.ti131 : TI := ⟨false, 1, [(.nilFunc)], 8, .other, false⟩
def Tryz.ti144 : TI := ⟨true, 3, [(.slice none 0 0), (.string ⟨#[]⟩), (.slice none 0 0)], 64, .struct [(25, 0), (9, 1), (25, 2)], false⟩
def Tryz.ti154 : TI := ⟨false, 1, [(.int .u64 0)], 8, .int .u64, false⟩
def Tryz.ti179 : TI := ⟨false, 1, [(.int .i64 0)], 8, .int .i64, false⟩
def Tryz.ti187 : TI := ⟨false, 1, [(.int .u32 0)], 4, .int .u32, false⟩
def Tryz.ti189 : TI := ⟨false, 1, [(.int .u64 0)], 8, .int .u64, false⟩
def Tryz.ti193 : TI := ⟨false, 1, [(.slice none 0 0)], 24, .slice 4, false⟩
def Tryz.ti199 : TI := ⟨false, 1, [(.int .u64 0)], 8, .int .u64, false⟩
def Tryz.ti223 : TI := ⟨true, 10, [(.string ⟨#[]⟩), (.int .i64 0), (.int .i64 0), (.string ⟨#[]⟩), (.string ⟨#[]⟩), (.int .i64 0), (.int .i64 0), (.int .i64 0), (.string ⟨#[]⟩), (.slice none 0 0)], 128, .struct [(9, 0), (3, 1), (30, 2)], false⟩
def Tryz.ti225 : TI := ⟨true, 9, [(.int .i64 0), (.int .i64 0), (.string ⟨#[]⟩), (.string ⟨#[]⟩), (.int .i64 0), (.int .i64 0), (.int .i64 0), (.string ⟨#[]⟩), (.slice none 0 0)], 112, .struct [(3, 0), (30, 1)], false⟩
def Tryz.ti227 : TI := ⟨true, 2, [(.int .i64 0), (.bool false)], 16, .struct [(3, 0), (4, 1)], false⟩
def Tryz.tyT : Tr TI := (.n (.n (.n (.n (.n (.n .e none (.n .e none (.n .e (some Tryz.ti223) .e))) none (.n .e (some Tryz.ti47) .e)) none (.n (.n (.n .e none (.n .e (some Tryz.ti199) .e)) none .e) (some Tryz.ti23) .e)) (some Tryz.ti3) (.n (.n (.n (.n (.n .e (some Tryz.ti131) .e) none .e) (some Tryz.ti35) (.n .e (some Tryz.ti99) (.n .e (some Tryz.ti227) .e))) none (.n .e (some Tryz.ti51) (.n (.n .e (some Tryz.ti179) .e) (some Tryz.ti115) .e))) none (.n (.n (.n .e (some Tryz.ti75) .e) (some Tryz.ti43) .e) (some Tryz.ti27) (.n .e none (.n (.n .e (some Tryz.ti187) .e) none .e))))) none (.n (.n (.n (.n (.n .e (some Tryz.ti65) (.n .e (some Tryz.ti193) .e)) (some Tryz.ti33) (.n .e none (.n .e (some Tryz.ti225) .e))) none (.n .e (some Tryz.ti49) .e)) (some Tryz.ti9) (.n (.n (.n .e (some Tryz.ti73) .e) (some Tryz.ti41) .e) (some Tryz.ti25) .e)) (some Tryz.ti5) (.n (.n (.n .e (some Tryz.ti37) .e) none .e) none (.n (.n (.n .e (some Tryz.ti77) .e) (some Tryz.ti45) .e) none (.n .e none (.n (.n .e (some Tryz.ti189) .e) none .e)))))) none (.n (.n (.n (.n (.n .e (some Tryz.ti32) .e) none (.n (.n (.n .e (some Tryz.ti144) .e) none .e) (some Tryz.ti48) (.n .e (some Tryz.ti112) .e))) none (.n (.n (.n .e (some Tryz.ti72) .e) (some Tryz.ti40) (.n .e (some Tryz.ti104) .e)) (some Tryz.ti24) (.n (.n .e (some Tryz.ti88) .e) none .e))) (some Tryz.ti4) (.n (.n (.n .e (some Tryz.ti36) .e) none (.n (.n .e (some Tryz.ti84) .e) none .e)) none (.n (.n .e (some Tryz.ti44) .e) (some Tryz.ti28) (.n (.n .e (some Tryz.ti92) .e) none (.n .e (some Tryz.ti124) .e))))) (some Tryz.ti2) (.n (.n .e none (.n (.n .e (some Tryz.ti42) .e) none (.n (.n (.n .e (some Tryz.ti154) .e) none .e) none (.n .e (some Tryz.ti122) .e)))) none (.n (.n (.n .e (some Tryz.ti38) .e) none (.n (.n .e (some Tryz.ti86) .e) none (.n .e (some Tryz.ti118) .e))) none (.n .e (some Tryz.ti30) (.n (.n .e (some Tryz.ti94) .e) none .e))))))
noncomputable def Tryz.fi3 : FI := ⟨Tryz.f3.ntmps, Tryz.f3.results.toList, (Tryz.f3.body).getD .skip⟩
noncomputable def Tryz.fi4 : FI := ⟨Tryz.f4.ntmps, Tryz.f4.results.toList, (Tryz.f4.body).getD .skip⟩
noncomputable def Tryz.fi5 : FI := ⟨Tryz.f5.ntmps, Tryz.f5.results.toList, (Tryz.f5.body).getD .skip⟩
noncomputable def Tryz.fi6 : FI := ⟨Tryz.f6.ntmps, Tryz.f6.results.toList, (Tryz.f6.body).getD .skip⟩
noncomputable def Tryz.fi7 : FI := ⟨Tryz.f7.ntmps, Tryz.f7.results.toList, (Tryz.f7.body).getD .skip⟩
noncomputable def Tryz.fi8 : FI := ⟨Tryz.f8.ntmps, Tryz.f8.results.toList, (Tryz.f8.body).getD .skip⟩
noncomputable def Tryz.fi9 : FI := ⟨Tryz.f9.ntmps, Tryz.f9.results.toList, (Tryz.f9.body).getD .skip⟩
noncomputable def Tryz.fi10 : FI := ⟨Tryz.f10.ntmps, Tryz.f10.results.toList, (Tryz.f10.body).getD .skip⟩
noncomputable def Tryz.fi11 : FI := ⟨Tryz.f11.ntmps, Tryz.f11.results.toList, (Tryz.f11.body).getD .skip⟩
noncomputable def Tryz.fi12 : FI := ⟨Tryz.f12.ntmps, Tryz.f12.results.toList, (Tryz.f12.body).getD .skip⟩
noncomputable def Tryz.fi13 : FI := ⟨Tryz.f13.ntmps, Tryz.f13.results.toList, (Tryz.f13.body).getD .skip⟩
noncomputable def Tryz.fi14 : FI := ⟨Tryz.f14.ntmps, Tryz.f14.results.toList, (Tryz.f14.body).getD .skip⟩
noncomputable def Tryz.fi15 : FI := ⟨Tryz.f15.ntmps, Tryz.f15.results.toList, (Tryz.f15.body).getD .skip⟩
noncomputable def Tryz.fi16 : FI := ⟨Tryz.f16.ntmps, Tryz.f16.results.toList, (Tryz.f16.body).getD .skip⟩
noncomputable def Tryz.fi17 : FI := ⟨Tryz.f17.ntmps, Tryz.f17.results.toList, (Tryz.f17.body).getD .skip⟩
noncomputable def Tryz.fi18 : FI := ⟨Tryz.f18.ntmps, Tryz.f18.results.toList, (Tryz.f18.body).getD .skip⟩
noncomputable def Tryz.fi19 : FI := ⟨Tryz.f19.ntmps, Tryz.f19.results.toList, (Tryz.f19.body).getD .skip⟩
noncomputable def Tryz.fi20 : FI := ⟨Tryz.f20.ntmps, Tryz.f20.results.toList, (Tryz.f20.body).getD .skip⟩
noncomputable def Tryz.fi21 : FI := ⟨Tryz.f21.ntmps, Tryz.f21.results.toList, (Tryz.f21.body).getD .skip⟩
noncomputable def Tryz.fi22 : FI := ⟨Tryz.f22.ntmps, Tryz.f22.results.toList, (Tryz.f22.body).getD .skip⟩
noncomputable def Tryz.fi23 : FI := ⟨Tryz.f23.ntmps, Tryz.f23.results.toList, (Tryz.f23.body).getD .skip⟩
noncomputable def Tryz.fi24 : FI := ⟨Tryz.f24.ntmps, Tryz.f24.results.toList, (Tryz.f24.body).getD .skip⟩
noncomputable def Tryz.fi25 : FI := ⟨Tryz.f25.ntmps, Tryz.f25.results.toList, (Tryz.f25.body).getD .skip⟩
noncomputable def Tryz.fi26 : FI := ⟨Tryz.f26.ntmps, Tryz.f26.results.toList, (Tryz.f26.body).getD .skip⟩
noncomputable def Tryz.fi27 : FI := ⟨Tryz.f27.ntmps, Tryz.f27.results.toList, (Tryz.f27.body).getD .skip⟩
noncomputable def Tryz.fi28 : FI := ⟨Tryz.f28.ntmps, Tryz.f28.results.toList, (Tryz.f28.body).getD .skip⟩
noncomputable def Tryz.fi29 : FI := ⟨Tryz.f29.ntmps, Tryz.f29.results.toList, (Tryz.f29.body).getD .skip⟩
noncomputable def Tryz.fi30 : FI := ⟨Tryz.f30.ntmps, Tryz.f30.results.toList, (Tryz.f30.body).getD .skip⟩
noncomputable def Tryz.fi31 : FI := ⟨Tryz.f31.ntmps, Tryz.f31.results.toList, (Tryz.f31.body).getD .skip⟩
noncomputable def Tryz.fi32 : FI := ⟨Tryz.f32.ntmps, Tryz.f32.results.toList, (Tryz.f32.body).getD .skip⟩
noncomputable def Tryz.fi33 : FI := ⟨Tryz.f33.ntmps, Tryz.f33.results.toList, (Tryz.f33.body).getD .skip⟩
noncomputable def Tryz.fi34 : FI := ⟨Tryz.f34.ntmps, Tryz.f34.results.toList, (Tryz.f34.body).getD .skip⟩
noncomputable def Tryz.fi35 : FI := ⟨Tryz.f35.ntmps, Tryz.f35.results.toList, (Tryz.f35.body).getD .skip⟩
noncomputable def Tryz.fi36 : FI := ⟨Tryz.f36.ntmps, Tryz.f36.results.toList, (Tryz.f36.body).getD .skip⟩
noncomputable def Tryz.fi37 : FI := ⟨Tryz.f37.ntmps, Tryz.f37.results.toList, (Tryz.f37.body).getD .skip⟩
noncomputable def Tryz.fi38 : FI := ⟨Tryz.f38.ntmps, Tryz.f38.results.toList, (Tryz.f38.body).getD .skip⟩
noncomputable def Tryz.fi39 : FI := ⟨Tryz.f39.ntmps, Tryz.f39.results.toList, (Tryz.f39.body).getD .skip⟩
noncomputable def Tryz.fi40 : FI := ⟨Tryz.f40.ntmps, Tryz.f40.results.toList, (Tryz.f40.body).getD .skip⟩
noncomputable def Tryz.fi41 : FI := ⟨Tryz.f41.ntmps, Tryz.f41.results.toList, (Tryz.f41.body).getD .skip⟩
noncomputable def Tryz.fi42 : FI := ⟨Tryz.f42.ntmps, Tryz.f42.results.toList, (Tryz.f42.body).getD .skip⟩
noncomputable def Tryz.fi43 : FI := ⟨Tryz.f43.ntmps, Tryz.f43.results.toList, (Tryz.f43.body).getD .skip⟩
noncomputable def Tryz.fi44 : FI := ⟨Tryz.f44.ntmps, Tryz.f44.results.toList, (Tryz.f44.body).getD .skip⟩
noncomputable def Tryz.fi45 : FI := ⟨Tryz.f45.ntmps, Tryz.f45.results.toList, (Tryz.f45.body).getD .skip⟩
noncomputable def Tryz.fi46 : FI := ⟨Tryz.f46.ntmps, Tryz.f46.results.toList, (Tryz.f46.body).getD .skip⟩
noncomputable def Tryz.fi47 : FI := ⟨Tryz.f47.ntmps, Tryz.f47.results.toList, (Tryz.f47.body).getD .skip⟩
noncomputable def Tryz.fi48 : FI := ⟨Tryz.f48.ntmps, Tryz.f48.results.toList, (Tryz.f48.body).getD .skip⟩
noncomputable def Tryz.fi49 : FI := ⟨Tryz.f49.ntmps, Tryz.f49.results.toList, (Tryz.f49.body).getD .skip⟩
noncomputable def Tryz.fi50 : FI := ⟨Tryz.f50.ntmps, Tryz.f50.results.toList, (Tryz.f50.body).getD .skip⟩
noncomputable def Tryz.fi51 : FI := ⟨Tryz.f51.ntmps, Tryz.f51.results.toList, (Tryz.f51.body).getD .skip⟩
noncomputable def Tryz.fi52 : FI := ⟨Tryz.f52.ntmps, Tryz.f52.results.toList, (Tryz.f52.body).getD .skip⟩
noncomputable def Tryz.fi53 : FI := ⟨Tryz.f53.ntmps, Tryz.f53.results.toList, (Tryz.f53.body).getD .skip⟩
noncomputable def Tryz.fi54 : FI := ⟨Tryz.f54.ntmps, Tryz.f54.results.toList, (Tryz.f54.body).getD .skip⟩
noncomputable def Tryz.fi55 : FI := ⟨Tryz.f55.ntmps, Tryz.f55.results.toList, (Tryz.f55.body).getD .skip⟩
noncomputable def Tryz.fi56 : FI := ⟨Tryz.f56.ntmps, Tryz.f56.results.toList, (Tryz.f56.body).getD .skip⟩
noncomputable def Tryz.fi57 : FI := ⟨Tryz.f57.ntmps, Tryz.f57.results.toList, (Tryz.f57.body).getD .skip⟩
noncomputable def Tryz.fi58 : FI := ⟨Tryz.f58.ntmps, Tryz.f58.results.toList, (Tryz.f58.body).getD .skip⟩
noncomputable def Tryz.fi59 : FI := ⟨Tryz.f59.ntmps, Tryz.f59.results.toList, (Tryz.f59.body).getD .skip⟩
noncomputable def Tryz.fi60 : FI := ⟨Tryz.f60.ntmps, Tryz.f60.results.toList, (Tryz.f60.body).getD .skip⟩
noncomputable def Tryz.fi61 : FI := ⟨Tryz.f61.ntmps, Tryz.f61.results.toList, (Tryz.f61.body).getD .skip⟩
noncomputable def Tryz.fi62 : FI := ⟨Tryz.f62.ntmps, Tryz.f62.results.toList, (Tryz.f62.body).getD .skip⟩
noncomputable def Tryz.fi63 : FI := ⟨Tryz.f63.ntmps, Tryz.f63.results.toList, (Tryz.f63.body).getD .skip⟩
noncomputable def Tryz.fi64 : FI := ⟨Tryz.f64.ntmps, Tryz.f64.results.toList, (Tryz.f64.body).getD .skip⟩
noncomputable def Tryz.fi65 : FI := ⟨Tryz.f65.ntmps, Tryz.f65.results.toList, (Tryz.f65.body).getD .skip⟩
noncomputable def Tryz.fi66 : FI := ⟨Tryz.f66.ntmps, Tryz.f66.results.toList, (Tryz.f66.body).getD .skip⟩
noncomputable def Tryz.fi67 : FI := ⟨Tryz.f67.ntmps, Tryz.f67.results.toList, (Tryz.f67.body).getD .skip⟩
noncomputable def Tryz.fi68 : FI := ⟨Tryz.f68.ntmps, Tryz.f68.results.toList, (Tryz.f68.body).getD .skip⟩
noncomputable def Tryz.fi69 : FI := ⟨Tryz.f69.ntmps, Tryz.f69.results.toList, (Tryz.f69.body).getD .skip⟩
noncomputable def Tryz.fi70 : FI := ⟨Tryz.f70.ntmps, Tryz.f70.results.toList, (Tryz.f70.body).getD .skip⟩
noncomputable def Tryz.fi71 : FI := ⟨Tryz.f71.ntmps, Tryz.f71.results.toList, (Tryz.f71.body).getD .skip⟩
noncomputable def Tryz.fi72 : FI := ⟨Tryz.f72.ntmps, Tryz.f72.results.toList, (Tryz.f72.body).getD .skip⟩
noncomputable def Tryz.fi73 : FI := ⟨Tryz.f73.ntmps, Tryz.f73.results.toList, (Tryz.f73.body).getD .skip⟩
noncomputable def Tryz.fi74 : FI := ⟨Tryz.f74.ntmps, Tryz.f74.results.toList, (Tryz.f74.body).getD .skip⟩
noncomputable def Tryz.fi75 : FI := ⟨Tryz.f75.ntmps, Tryz.f75.results.toList, (Tryz.f75.body).getD .skip⟩
noncomputable def Tryz.fi76 : FI := ⟨Tryz.f76.ntmps, Tryz.f76.results.toList, (Tryz.f76.body).getD .skip⟩
noncomputable def Tryz.fi77 : FI := ⟨Tryz.f77.ntmps, Tryz.f77.results.toList, (Tryz.f77.body).getD .skip⟩
noncomputable def Tryz.fi78 : FI := ⟨Tryz.f78.ntmps, Tryz.f78.results.toList, (Tryz.f78.body).getD .skip⟩
noncomputable def Tryz.fi79 : FI := ⟨Tryz.f79.ntmps, Tryz.f79.results.toList, (Tryz.f79.body).getD .skip⟩
noncomputable def Tryz.fi80 : FI := ⟨Tryz.f80.ntmps, Tryz.f80.results.toList, (Tryz.f80.body).getD .skip⟩
noncomputable def Tryz.fi81 : FI := ⟨Tryz.f81.ntmps, Tryz.f81.results.toList, (Tryz.f81.body).getD .skip⟩
noncomputable def Tryz.fi82 : FI := ⟨Tryz.f82.ntmps, Tryz.f82.results.toList, (Tryz.f82.body).getD .skip⟩
noncomputable def Tryz.fi83 : FI := ⟨Tryz.f83.ntmps, Tryz.f83.results.toList, (Tryz.f83.body).getD .skip⟩
noncomputable def Tryz.fi84 : FI := ⟨Tryz.f84.ntmps, Tryz.f84.results.toList, (Tryz.f84.body).getD .skip⟩
noncomputable def Tryz.fi85 : FI := ⟨Tryz.f85.ntmps, Tryz.f85.results.toList, (Tryz.f85.body).getD .skip⟩
noncomputable def Tryz.fi86 : FI := ⟨Tryz.f86.ntmps, Tryz.f86.results.toList, (Tryz.f86.body).getD .skip⟩
noncomputable def Tryz.fi87 : FI := ⟨Tryz.f87.ntmps, Tryz.f87.results.toList, (Tryz.f87.body).getD .skip⟩
noncomputable def Tryz.fi88 : FI := ⟨Tryz.f88.ntmps, Tryz.f88.results.toList, (Tryz.f88.body).getD .skip⟩
noncomputable def Tryz.fi89 : FI := ⟨Tryz.f89.ntmps, Tryz.f89.results.toList, (Tryz.f89.body).getD .skip⟩
noncomputable def Tryz.fi90 : FI := ⟨Tryz.f90.ntmps, Tryz.f90.results.toList, (Tryz.f90.body).getD .skip⟩
noncomputable def Tryz.fi91 : FI := ⟨Tryz.f91.ntmps, Tryz.f91.results.toList, (Tryz.f91.body).getD .skip⟩
noncomputable def Tryz.fi92 : FI := ⟨Tryz.f92.ntmps, Tryz.f92.results.toList, (Tryz.f92.body).getD .skip⟩
noncomputable def Tryz.fi93 : FI := ⟨Tryz.f93.ntmps, Tryz.f93.results.toList, (Tryz.f93.body).getD .skip⟩
noncomputable def Tryz.fi94 : FI := ⟨Tryz.f94.ntmps, Tryz.f94.results.toList, (Tryz.f94.body).getD .skip⟩
noncomputable def Tryz.fi95 : FI := ⟨Tryz.f95.ntmps, Tryz.f95.results.toList, (Tryz.f95.body).getD .skip⟩
noncomputable def Tryz.fi96 : FI := ⟨Tryz.f96.ntmps, Tryz.f96.results.toList, (Tryz.f96.body).getD .skip⟩
noncomputable def Tryz.fi97 : FI := ⟨Tryz.f97.ntmps, Tryz.f97.results.toList, (Tryz.f97.body).getD .skip⟩
noncomputable def Tryz.fi98 : FI := ⟨Tryz.f98.ntmps, Tryz.f98.results.toList, (Tryz.f98.body).getD .skip⟩
noncomputable def Tryz.fi99 : FI := ⟨Tryz.f99.ntmps, Tryz.f99.results.toList, (Tryz.f99.body).getD .skip⟩
noncomputable def Tryz.fi100 : FI := ⟨Tryz.f100.ntmps, Tryz.f100.results.toList, (Tryz.f100.body).getD .skip⟩
noncomputable def Tryz.fi101 : FI := ⟨Tryz.f101.ntmps, Tryz.f101.results.toList, (Tryz.f101.body).getD .skip⟩
noncomputable def Tryz.fi102 : FI := ⟨Tryz.f102.ntmps, Tryz.f102.results.toList, (Tryz.f102.body).getD .skip⟩
noncomputable def Tryz.fi103 : FI := ⟨Tryz.f103.ntmps, Tryz.f103.results.toList, (Tryz.f103.body).getD .skip⟩
noncomputable def Tryz.fi104 : FI := ⟨Tryz.f104.ntmps, Tryz.f104.results.toList, (Tryz.f104.body).getD .skip⟩
noncomputable def Tryz.fi105 : FI := ⟨Tryz.f105.ntmps, Tryz.f105.results.toList, (Tryz.f105.body).getD .skip⟩
noncomputable def Tryz.fi106 : FI := ⟨Tryz.f106.ntmps, Tryz.f106.results.toList, (Tryz.f106.body).getD .skip⟩
noncomputable def Tryz.fi107 : FI := ⟨Tryz.f107.ntmps, Tryz.f107.results.toList, (Tryz.f107.body).getD .skip⟩
noncomputable def Tryz.fi108 : FI := ⟨Tryz.f108.ntmps, Tryz.f108.results.toList, (Tryz.f108.body).getD .skip⟩
noncomputable def Tryz.fi109 : FI := ⟨Tryz.f109.ntmps, Tryz.f109.results.toList, (Tryz.f109.body).getD .skip⟩
noncomputable def Tryz.fi110 : FI := ⟨Tryz.f110.ntmps, Tryz.f110.results.toList, (Tryz.f110.body).getD .skip⟩
noncomputable def Tryz.fi111 : FI := ⟨Tryz.f111.ntmps, Tryz.f111.results.toList, (Tryz.f111.body).getD .skip⟩
noncomputable def Tryz.fi112 : FI := ⟨Tryz.f112.ntmps, Tryz.f112.results.toList, (Tryz.f112.body).getD .skip⟩
noncomputable def Tryz.fi113 : FI := ⟨Tryz.f113.ntmps, Tryz.f113.results.toList, (Tryz.f113.body).getD .skip⟩
noncomputable def Tryz.fi114 : FI := ⟨Tryz.f114.ntmps, Tryz.f114.results.toList, (Tryz.f114.body).getD .skip⟩
noncomputable def Tryz.fi115 : FI := ⟨Tryz.f115.ntmps, Tryz.f115.results.toList, (Tryz.f115.body).getD .skip⟩
noncomputable def Tryz.fi116 : FI := ⟨Tryz.f116.ntmps, Tryz.f116.results.toList, (Tryz.f116.body).getD .skip⟩
noncomputable def Tryz.fi117 : FI := ⟨Tryz.f117.ntmps, Tryz.f117.results.toList, (Tryz.f117.body).getD .skip⟩
noncomputable def Tryz.fi118 : FI := ⟨Tryz.f118.ntmps, Tryz.f118.results.toList, (Tryz.f118.body).getD .skip⟩
noncomputable def Tryz.fi119 : FI := ⟨Tryz.f119.ntmps, Tryz.f119.results.toList, (Tryz.f119.body).getD .skip⟩
noncomputable def Tryz.fi120 : FI := ⟨Tryz.f120.ntmps, Tryz.f120.results.toList, (Tryz.f120.body).getD .skip⟩
noncomputable def Tryz.fi121 : FI := ⟨Tryz.f121.ntmps, Tryz.f121.results.toList, (Tryz.f121.body).getD .skip⟩
noncomputable def Tryz.fi122 : FI := ⟨Tryz.f122.ntmps, Tryz.f122.results.toList, (Tryz.f122.body).getD .skip⟩
noncomputable def Tryz.fi123 : FI := ⟨Tryz.f123.ntmps, Tryz.f123.results.toList, (Tryz.f123.body).getD .skip⟩
noncomputable def Tryz.fi124 : FI := ⟨Tryz.f124.ntmps, Tryz.f124.results.toList, (Tryz.f124.body).getD .skip⟩
noncomputable def Tryz.fi125 : FI := ⟨Tryz.f125.ntmps, Tryz.f125.results.toList, (Tryz.f125.body).getD .skip⟩
noncomputable def Tryz.fi126 : FI := ⟨Tryz.f126.ntmps, Tryz.f126.results.toList, (Tryz.f126.body).getD .skip⟩
noncomputable def Tryz.fi127 : FI := ⟨Tryz.f127.ntmps, Tryz.f127.results.toList, (Tryz.f127.body).getD .skip⟩
noncomputable def Tryz.fi128 : FI := ⟨Tryz.f128.ntmps, Tryz.f128.results.toList, (Tryz.f128.body).getD .skip⟩
noncomputable def Tryz.fi129 : FI := ⟨Tryz.f129.ntmps, Tryz.f129.results.toList, (Tryz.f129.body).getD .skip⟩
noncomputable def Tryz.fi130 : FI := ⟨Tryz.f130.ntmps, Tryz.f130.results.toList, (Tryz.f130.body).getD .skip⟩
noncomputable def Tryz.fi131 : FI := ⟨Tryz.f131.ntmps, Tryz.f131.results.toList, (Tryz.f131.body).getD .skip⟩
noncomputable def Tryz.fi132 : FI := ⟨Tryz.f132.ntmps, Tryz.f132.results.toList, (Tryz.f132.body).getD .skip⟩
noncomputable def Tryz.fi133 : FI := ⟨Tryz.f133.ntmps, Tryz.f133.results.toList, (Tryz.f133.body).getD .skip⟩
noncomputable def Tryz.fi134 : FI := ⟨Tryz.f134.ntmps, Tryz.f134.results.toList, (Tryz.f134.body).getD .skip⟩
noncomputable def Tryz.fi135 : FI := ⟨Tryz.f135.ntmps, Tryz.f135.results.toList, (Tryz.f135.body).getD .skip⟩
noncomputable def Tryz.fi136 : FI := ⟨Tryz.f136.ntmps, Tryz.f136.results.toList, (Tryz.f136.body).getD .skip⟩
noncomputable def Tryz.fi137 : FI := ⟨Tryz.f137.ntmps, Tryz.f137.results.toList, (Tryz.f137.body).getD .skip⟩
noncomputable def Tryz.fi138 : FI := ⟨Tryz.f138.ntmps, Tryz.f138.results.toList, (Tryz.f138.body).getD .skip⟩
noncomputable def Tryz.fi139 : FI := ⟨Tryz.f139.ntmps, Tryz.f139.results.toList, (Tryz.f139.body).getD .skip⟩
noncomputable def Tryz.fi140 : FI := ⟨Tryz.f140.ntmps, Tryz.f140.results.toList, (Tryz.f140.body).getD .skip⟩
noncomputable def Tryz.fi141 : FI := ⟨Tryz.f141.ntmps, Tryz.f141.results.toList, (Tryz.f141.body).getD .skip⟩
noncomputable def Tryz.fi142 : FI := ⟨Tryz.f142.ntmps, Tryz.f142.results.toList, (Tryz.f142.body).getD .skip⟩
noncomputable def Tryz.fi143 : FI := ⟨Tryz.f143.ntmps, Tryz.f143.results.toList, (Tryz.f143.body).getD .skip⟩
noncomputable def Tryz.fi144 : FI := ⟨Tryz.f144.ntmps, Tryz.f144.results.toList, (Tryz.f144.body).getD .skip⟩
noncomputable def Tryz.fi145 : FI := ⟨Tryz.f145.ntmps, Tryz.f145.results.toList, (Tryz.f145.body).getD .skip⟩
noncomputable def Tryz.fi146 : FI := ⟨Tryz.f146.ntmps, Tryz.f146.results.toList, (Tryz.f146.body).getD .skip⟩
noncomputable def Tryz.fi147 : FI := ⟨Tryz.f147.ntmps, Tryz.f147.results.toList, (Tryz.f147.body).getD .skip⟩
noncomputable def Tryz.fi148 : FI := ⟨Tryz.f148.ntmps, Tryz.f148.results.toList, (Tryz.f148.body).getD .skip⟩
noncomputable def Tryz.fi149 : FI := ⟨Tryz.f149.ntmps, Tryz.f149.results.toList, (Tryz.f149.body).getD .skip⟩
noncomputable def Tryz.fi150 : FI := ⟨Tryz.f150.ntmps, Tryz.f150.results.toList, (Tryz.f150.body).getD .skip⟩
noncomputable def Tryz.fi151 : FI := ⟨Tryz.f151.ntmps, Tryz.f151.results.toList, (Tryz.f151.body).getD .skip⟩
noncomputable def Tryz.fi152 : FI := ⟨Tryz.f152.ntmps, Tryz.f152.results.toList, (Tryz.f152.body).getD .skip⟩
noncomputable def Tryz.fi153 : FI := ⟨Tryz.f153.ntmps, Tryz.f153.results.toList, (Tryz.f153.body).getD .skip⟩
noncomputable def Tryz.fi154 : FI := ⟨Tryz.f154.ntmps, Tryz.f154.results.toList, (Tryz.f154.body).getD .skip⟩
noncomputable def Tryz.fnT : Tr FI := (.n (.n (.n (.n (.n (.n (.n (.n .e (some Tryz.fi127) .e) (some Tryz.fi63) .e) (some Tryz.fi31) (.n .e (some Tryz.fi95) .e)) (some Tryz.fi15) (.n (.n (.n .e (some Tryz.fi143) .e) (some Tryz.fi79) .e) (some Tryz.fi47) (.n .e (some Tryz.fi111) .e))) (some Tryz.fi7) (.n (.n (.n (.n .e (some Tryz.fi135) .e) (some Tryz.fi71) .e) (some Tryz.fi39) (.n .e (some Tryz.fi103) .e)) (some Tryz.fi23) (.n (.n (.n .e (some Tryz.fi151) .e) (some Tryz.fi87) .e) (some Tryz.fi55) (.n .e (some Tryz.fi119) .e)))) (some Tryz.fi3) (.n (.n (.n (.n (.n .e (some Tryz.fi131) .e) (some Tryz.fi67) .e) (some Tryz.fi35) (.n .e (some Tryz.fi99) .e)) (some Tryz.fi19) (.n (.n (.n .e (some Tryz.fi147) .e) (some Tryz.fi83) .e) (some Tryz.fi51) (.n .e (some Tryz.fi115) .e))) (some Tryz.fi11) (.n (.n (.n (.n .e (some Tryz.fi139) .e) (some Tryz.fi75) .e) (some Tryz.fi43) (.n .e (some Tryz.fi107) .e)) (some Tryz.fi27) (.n (.n .e (some Tryz.fi91) .e) (some Tryz.fi59) (.n .e (some Tryz.fi123) .e))))) none (.n (.n (.n (.n (.n (.n .e (some Tryz.fi129) .e) (some Tryz.fi65) .e) (some Tryz.fi33) (.n .e (some Tryz.fi97) .e)) (some Tryz.fi17) (.n (.n (.n .e (some Tryz.fi145) .e) (some Tryz.fi81) .e) (some Tryz.fi49) (.n .e (some Tryz.fi113) .e))) (some Tryz.fi9) (.n (.n (.n (.n .e (some Tryz.fi137) .e) (some Tryz.fi73) .e) (some Tryz.fi41) (.n .e (some Tryz.fi105) .e)) (some Tryz.fi25) (.n (.n (.n .e (some Tryz.fi153) .e) (some Tryz.fi89) .e) (some Tryz.fi57) (.n .e (some Tryz.fi121) .e)))) (some Tryz.fi5) (.n (.n (.n (.n (.n .e (some Tryz.fi133) .e) (some Tryz.fi69) .e) (some Tryz.fi37) (.n .e (some Tryz.fi101) .e)) (some Tryz.fi21) (.n (.n (.n .e (some Tryz.fi149) .e) (some Tryz.fi85) .e) (some Tryz.fi53) (.n .e (some Tryz.fi117) .e))) (some Tryz.fi13) (.n (.n (.n (.n .e (some Tryz.fi141) .e) (some Tryz.fi77) .e) (some Tryz.fi45) (.n .e (some Tryz.fi109) .e)) (some Tryz.fi29) (.n (.n .e (some Tryz.fi93) .e) (some Tryz.fi61) (.n .e (some Tryz.fi125) .e)))))) none (.n (.n (.n (.n (.n (.n (.n .e (some Tryz.fi128) .e) (some Tryz.fi64) .e) (some Tryz.fi32) (.n .e (some Tryz.fi96) .e)) (some Tryz.fi16) (.n (.n (.n .e (some Tryz.fi144) .e) (some Tryz.fi80) .e) (some Tryz.fi48) (.n .e (some Tryz.fi112) .e))) (some Tryz.fi8) (.n (.n (.n (.n .e (some Tryz.fi136) .e) (some Tryz.fi72) .e) (some Tryz.fi40) (.n .e (some Tryz.fi104) .e)) (some Tryz.fi24) (.n (.n (.n .e (some Tryz.fi152) .e) (some Tryz.fi88) .e) (some Tryz.fi56) (.n .e (some Tryz.fi120) .e)))) (some Tryz.fi4) (.n (.n (.n (.n (.n .e (some Tryz.fi132) .e) (some Tryz.fi68) .e) (some Tryz.fi36) (.n .e (some Tryz.fi100) .e)) (some Tryz.fi20) (.n (.n (.n .e (some Tryz.fi148) .e) (some Tryz.fi84) .e) (some Tryz.fi52) (.n .e (some Tryz.fi116) .e))) (some Tryz.fi12) (.n (.n (.n (.n .e (some Tryz.fi140) .e) (some Tryz.fi76) .e) (some Tryz.fi44) (.n .e (some Tryz.fi108) .e)) (some Tryz.fi28) (.n (.n .e (some Tryz.fi92) .e) (some Tryz.fi60) (.n .e (some Tryz.fi124) .e))))) none (.n (.n (.n (.n (.n (.n .e (some Tryz.fi130) .e) (some Tryz.fi66) .e) (some Tryz.fi34) (.n .e (some Tryz.fi98) .e)) (some Tryz.fi18) (.n (.n (.n .e (some Tryz.fi146) .e) (some Tryz.fi82) .e) (some Tryz.fi50) (.n .e (some Tryz.fi114) .e))) (some Tryz.fi10) (.n (.n (.n (.n .e (some Tryz.fi138) .e) (some Tryz.fi74) .e) (some Tryz.fi42) (.n .e (some Tryz.fi106) .e)) (some Tryz.fi26) (.n (.n (.n .e (some Tryz.fi154) .e) (some Tryz.fi90) .e) (some Tryz.fi58) (.n .e (some Tryz.fi122) .e)))) (some Tryz.fi6) (.n (.n (.n (.n (.n .e (some Tryz.fi134) .e) (some Tryz.fi70) .e) (some Tryz.fi38) (.n .e (some Tryz.fi102) .e)) (some Tryz.fi22) (.n (.n (.n .e (some Tryz.fi150) .e) (some Tryz.fi86) .e) (some Tryz.fi54) (.n .e (some Tryz.fi118) .e))) (some Tryz.fi14) (.n (.n (.n (.n .e (some Tryz.fi142) .e) (some Tryz.fi78) .e) (some Tryz.fi46) (.n .e (some Tryz.fi110) .e)) (some Tryz.fi30) (.n (.n .e (some Tryz.fi94) .e) (some Tryz.fi62) (.n .e (some Tryz.fi126) .e)))))))
noncomputable def Tryz.T (kn : Nat → Option Value) : Tabs := ⟨Tryz.tyT.get, Tryz.fnT.get, kn⟩
theorem Tryz.tyOK2 : TyOK Tryz.prog 2 Tryz.ti2 := TyOK.of (by kernel_rfl) (by kernel_rfl) (by kernel_rfl) (by kernel_rfl) (fun h => by cases h)
theorem Tryz.tyOK3 : TyOK Tryz.prog 3 Tryz.ti3 := TyOK.of (by kernel_rfl) (by kernel_rfl) (by kernel_rfl) (by kernel_rfl) (fun h => by cases h)
theorem Tryz.tyOK4 : TyOK Tryz.prog 4 Tryz.ti4 := TyOK.of (by kernel_rfl) (by kernel_rfl) (by kernel_rfl) (by kernel_rfl) (fun h => by cases h)
theorem Tryz.tyOK5 : TyOK Tryz.prog 5 Tryz.ti5 := TyOK.of (by kernel_rfl) (by kernel_rfl) (by kernel_rfl) (by kernel_rfl) (fun h => by cases h)
theorem Tryz.tyOK9 : TyOK Tryz.prog 9 Tryz.ti9 := TyOK.of (by kernel_rfl) (by kernel_rfl) (by kernel_rfl) (by kernel_rfl) (fun h => by cases h)
theorem Tryz.tyOK23 : TyOK Tryz.prog 23 Tryz.ti23 := TyOK.of (by kernel_rfl) (by kernel_rfl) (by kernel_rfl) (by kernel_rfl) (fun h => by cases h)
theorem Tryz.tyOK24 : TyOK Tryz.prog 24 Tryz.ti24 := TyOK.of (by kernel_rfl) (by kernel_rfl) (by kernel_rfl) (by kernel_rfl) (fun h => by cases h)
theorem Tryz.tyOK25 : TyOK Tryz.prog 25 Tryz.ti25 := TyOK.of (by kernel_rfl) (by kernel_rfl) (by kernel_rfl) (by kernel_rfl) (fun h => by cases h)
theorem Tryz.tyOK27 : TyOK Tryz.prog 27 Tryz.ti27 := TyOK.of (by kernel_rfl) (by kernel_rfl) (by kernel_rfl) (by kernel_rfl) (fun _ => flat27)
theorem Tryz.tyOK28 : TyOK Tryz.prog 28 Tryz.ti28 := TyOK.of (by kernel_rfl) (by kernel_rfl) (by kernel_rfl) (by kernel_rfl) (fun h => by cases h)
theorem Tryz.tyOK30 : TyOK Tryz.prog 30 Tryz.ti30 := TyOK.of (by kernel_rfl) (by kernel_rfl) (by kernel_rfl) (by kernel_rfl) (fun h => by cases h)
theorem Tryz.tyOK32 : TyOK Tryz.prog 32 Tryz.ti32 := TyOK.of (by kernel_rfl) (by kernel_rfl) (by kernel_rfl) (by kernel_rfl) (fun h => by cases h)
theorem Tryz.tyOK33 : TyOK Tryz.prog 33 Tryz.ti33 := TyOK.of (by kernel_rfl) (by kernel_rfl) (by kernel_rfl) (by kernel_rfl) (fun h => by cases h)
theorem Tryz.tyOK35 : TyOK Tryz.prog 35 Tryz.ti35 := TyOK.of (by kernel_rfl) (by kernel_rfl) (by kernel_rfl) (by kernel_rfl) (fun h => by cases h)
theorem Tryz.tyOK36 : TyOK Tryz.prog 36 Tryz.ti36 := TyOK.of (by kernel_rfl) (by kernel_rfl) (by kernel_rfl) (by kernel_rfl) (fun h => by cases h)
theorem Tryz.tyOK37 : TyOK Tryz.prog 37 Tryz.ti37 := TyOK.of (by kernel_rfl) (by kernel_rfl) (by kernel_rfl) (by kernel_rfl) (fun h => by cases h)
theorem Tryz.tyOK38 : TyOK Tryz.prog 38 Tryz.ti38 := TyOK.of (by kernel_rfl) (by kernel_rfl) (by kernel_rfl) (by kernel_rfl) (fun h => by cases h)
theorem Tryz.tyOK40 : TyOK Tryz.prog 40 Tryz.ti40 := TyOK.of (by kernel_rfl) (by kernel_rfl) (by kernel_rfl) (by kernel_rfl) (fun h => by cases h)
theorem Tryz.tyOK41 : TyOK Tryz.prog 41 Tryz.ti41 := TyOK.of (by kernel_rfl) (by kernel_rfl) (by kernel_rfl) (by kernel_rfl) (fun h => by cases h)
theorem Tryz.tyOK42 : TyOK Tryz.prog 42 Tryz.ti42 := TyOK.of (by kernel_rfl) (by kernel_rfl) (by kernel_rfl) (by kernel_rfl) (fun h => by cases h)
theorem Tryz.tyOK43 : TyOK Tryz.prog 43 Tryz.ti43 := TyOK.of (by kernel_rfl) (by kernel_rfl) (by kernel_rfl) (by kernel_rfl) (fun h => by cases h)
theorem Tryz.tyOK44 : TyOK Tryz.prog 44 Tryz.ti44 := TyOK.of (by kernel_rfl) (by kernel_rfl) (by kernel_rfl) (by kernel_rfl) (fun h => by cases h)
theorem Tryz.tyOK45 : TyOK Tryz.prog 45 Tryz.ti45 := TyOK.of (by kernel_rfl) (by kernel_rfl) (by kernel_rfl) (by kernel_rfl) (fun h => by cases h)
theorem Tryz.tyOK47 : TyOK Tryz.prog 47 Tryz.ti47 := TyOK.of (by kernel_rfl) (by kernel_rfl) (by kernel_rfl) (by kernel_rfl) (fun h => by cases h)
theorem Tryz.tyOK48 : TyOK Tryz.prog 48 Tryz.ti48 := TyOK.of (by kernel_rfl) (by kernel_rfl) (by kernel_rfl) (by kernel_rfl) (fun h => by cases h)
theorem Tryz.tyOK49 : TyOK Tryz.prog 49 Tryz.ti49 := TyOK.of (by kernel_rfl) (by kernel_rfl) (by kernel_rfl) (by kernel_rfl) (fun h => by cases h)
theorem Tryz.tyOK51 : TyOK Tryz.prog 51 Tryz.ti51 := TyOK.of (by kernel_rfl) (by kernel_rfl) (by kernel_rfl) (by kernel_rfl) (fun h => by cases h)
theorem Tryz.tyOK65 : TyOK Tryz.prog 65 Tryz.ti65 := TyOK.of (by kernel_rfl) (by kernel_rfl) (by kernel_rfl) (by kernel_rfl) (fun h => by cases h)
theorem Tryz.tyOK72 : TyOK Tryz.prog 72 Tryz.ti72 := TyOK.of (by kernel_rfl) (by kernel_rfl) (by kernel_rfl) (by kernel_rfl) (fun h => by cases h)
theorem Tryz.tyOK73 : TyOK Tryz.prog 73 Tryz.ti73 := TyOK.of (by kernel_rfl) (by kernel_rfl) (by kernel_rfl) (by kernel_rfl) (fun h => by cases h)
theorem Tryz.tyOK75 : TyOK Tryz.prog 75 Tryz.ti75 := TyOK.of (by kernel_rfl) (by kernel_rfl) (by kernel_rfl) (by kernel_rfl) (fun h => by cases h)
theorem Tryz.tyOK77 : TyOK Tryz.prog 77 Tryz.ti77 := TyOK.of (by kernel_rfl) (by kernel_rfl) (by kernel_rfl) (by kernel_rfl) (fun h => by cases h)
theorem Tryz.tyOK84 : TyOK Tryz.prog 84 Tryz.ti84 := TyOK.of (by kernel_rfl) (by kernel_rfl) (by kernel_rfl) (by kernel_rfl) (fun h => by cases h)
theorem Tryz.tyOK86 : TyOK Tryz.prog 86 Tryz.ti86 := TyOK.of (by kernel_rfl) (by kernel_rfl) (by kernel_rfl) (by kernel_rfl) (fun h => by cases h)
theorem Tryz.tyOK88 : TyOK Tryz.prog 88 Tryz.ti88 := TyOK.of (by kernel_rfl) (by kernel_rfl) (by kernel_rfl) (by kernel_rfl) (fun h => by cases h)
theorem Tryz.tyOK92 : TyOK Tryz.prog 92 Tryz.ti92 := TyOK.of (by kernel_rfl) (by kernel_rfl) (by kernel_rfl) (by kernel_rfl) (fun h => by cases h)
theorem Tryz.tyOK94 : TyOK Tryz.prog 94 Tryz.ti94 := TyOK.of (by kernel_rfl) (by kernel_rfl) (by kernel_rfl) (by kernel_rfl) (fun h => by cases h)
theorem Tryz.tyOK99 : TyOK Tryz.prog 99 Tryz.ti99 := TyOK.of (by kernel_rfl) (by kernel_rfl) (by kernel_rfl) (by kernel_rfl) (fun h => by cases h)
theorem Tryz.tyOK104 : TyOK Tryz.prog 104 Tryz.ti104 := TyOK.of (by kernel_rfl) (by kernel_rfl) (by kernel_rfl) (by kernel_rfl) (fun h => by cases h)
theorem Tryz.tyOK112 : TyOK Tryz.prog 112 Tryz.ti112 := TyOK.of (by kernel_rfl) (by kernel_rfl) (by kernel_rfl) (by kernel_rfl) (fun h => by cases h)
theorem Tryz.tyOK115 : TyOK Tryz.prog 115 Tryz.ti115 := TyOK.of (by kernel_rfl) (by kernel_rfl) (by kernel_rfl) (by kernel_rfl) (fun h => by cases h)
theorem Tryz.tyOK118 : TyOK Tryz.prog 118 Tryz.ti118 := TyOK.of (by kernel_rfl) (by kernel_rfl) (by kernel_rfl) (by kernel_rfl) (fun h => by cases h)
theorem Tryz.tyOK122 : TyOK Tryz.prog 122 Tryz.ti122 := TyOK.of (by kernel_rfl) (by kernel_rfl) (by kernel_rfl) (by kernel_rfl) (fun h => by cases h)
theorem Tryz.tyOK124 : TyOK Tryz.prog 124 Tryz.ti124 := TyOK.of (by kernel_rfl) (by kernel_rfl) (by kernel_rfl) (by kernel_rfl) (fun h => by cases h)
theorem Tryz.tyOK131 : TyOK Tryz.prog 131 Tryz.ti131 := TyOK.of (by kernel_rfl) (by kernel_rfl) (by kernel_rfl) (by kernel_rfl) (fun h => by cases h)
theorem Tryz.tyOK144 : TyOK Tryz.prog 144 Tryz.ti144 := TyOK.of (by kernel_rfl) (by kernel_rfl) (by kernel_rfl) (by kernel_rfl) (fun h => by cases h)
theorem Tryz.tyOK154 : TyOK Tryz.prog 154 Tryz.ti154 := TyOK.of (by kernel_rfl) (by kernel_rfl) (by kernel_rfl) (by kernel_rfl) (fun h => by cases h)
theorem Tryz.tyOK179 : TyOK Tryz.prog 179 Tryz.ti179 := TyOK.of (by kernel_rfl) (by kernel_rfl) (by kernel_rfl) (by kernel_rfl) (fun h => by cases h)
theorem Tryz.tyOK187 : TyOK Tryz.prog 187 Tryz.ti187 := TyOK.of (by kernel_rfl) (by kernel_rfl) (by kernel_rfl) (by kernel_rfl) (fun h => by cases h)
theorem Tryz.tyOK189 : TyOK Tryz.prog 189 Tryz.ti189 := TyOK.of (by kernel_rfl) (by kernel_rfl) (by kernel_rfl) (by kernel_rfl) (fun h => by cases h)
theorem Tryz.tyOK193 : TyOK Tryz.prog 193 Tryz.ti193 := TyOK.of (by kernel_rfl) (by kernel_rfl) (by kernel_rfl) (by kernel_rfl) (fun h => by cases h)
theorem Tryz.tyOK199 : TyOK Tryz.prog 199 Tryz.ti199 := TyOK.of (by kernel_rfl) (by kernel_rfl) (by kernel_rfl) (by kernel_rfl) (fun h => by cases h)
theorem Tryz.tyOK223 : TyOK Tryz.prog 223 Tryz.ti223 := TyOK.of (by kernel_rfl) (by kernel_rfl) (by kernel_rfl) (by kernel_rfl) (fun h => by cases h)
theorem Tryz.tyOK225 : TyOK Tryz.prog 225 Tryz.ti225 := TyOK.of (by kernel_rfl) (by kernel_rfl) (by kernel_rfl) (by kernel_rfl) (fun h => by cases h)
theorem Tryz.tyOK227 : TyOK Tryz.prog 227 Tryz.ti227 := TyOK.of (by kernel_rfl) (by kernel_rfl) (by kernel_rfl) (by kernel_rfl) (fun h => by cases h)
theorem Tryz.fnOK3 : FnOK Tryz.prog 3 Tryz.fi3 := FnOK.of Tryz.func3 (by kernel_rfl) rfl (by kernel_rfl) (by kernel_rfl)
theorem Tryz.fnOK4 : FnOK Tryz.prog 4 Tryz.fi4 := FnOK.of Tryz.func4 (by kernel_rfl) rfl (by kernel_rfl) (by kernel_rfl)
theorem Tryz.fnOK5 : FnOK Tryz.prog 5 Tryz.fi5 := FnOK.of Tryz.func5 (by kernel_rfl) rfl (by kernel_rfl) (by kernel_rfl)
theorem Tryz.fnOK6 : FnOK Tryz.prog 6 Tryz.fi6 := FnOK.of Tryz.func6 (by kernel_rfl) rfl (by kernel_rfl) (by kernel_rfl)
theorem Tryz.fnOK7 : FnOK Tryz.prog 7 Tryz.fi7 := FnOK.of Tryz.func7 (by kernel_rfl) rfl (by kernel_rfl) (by kernel_rfl)
theorem Tryz.fnOK8 : FnOK Tryz.prog 8 Tryz.fi8 := FnOK.of Tryz.func8 (by kernel_rfl) rfl (by kernel_rfl) (by kernel_rfl)
theorem Tryz.fnOK9 : FnOK Tryz.prog 9 Tryz.fi9 := FnOK.of Tryz.func9 (by kernel_rfl) rfl (by kernel_rfl) (by kernel_rfl)
theorem Tryz.fnOK10 : FnOK Tryz.prog 10 Tryz.fi10 := FnOK.of Tryz.func10 (by kernel_rfl) rfl (by kernel_rfl) (by kernel_rfl)
theorem Tryz.fnOK11 : FnOK Tryz.prog 11 Tryz.fi11 := FnOK.of Tryz.func11 (by kernel_rfl) rfl (by kernel_rfl) (by kernel_rfl)
theorem Tryz.fnOK12 : FnOK Tryz.prog 12 Tryz.fi12 := FnOK.of Tryz.func12 (by kernel_rfl) rfl (by kernel_rfl) (by kernel_rfl)
theorem Tryz.fnOK13 : FnOK Tryz.prog 13 Tryz.fi13 := FnOK.of Tryz.func13 (by kernel_rfl) rfl (by kernel_rfl) (by kernel_rfl)
theorem Tryz.fnOK14 : FnOK Tryz.prog 14 Tryz.fi14 := FnOK.of Tryz.func14 (by kernel_rfl) rfl (by kernel_rfl) (by kernel_rfl)
theorem Tryz.fnOK15 : FnOK Tryz.prog 15 Tryz.fi15 := FnOK.of Tryz.func15 (by kernel_rfl) rfl (by kernel_rfl) (by kernel_rfl)
theorem Tryz.fnOK16 : FnOK Tryz.prog 16 Tryz.fi16 := FnOK.of Tryz.func16 (by kernel_rfl) rfl (by kernel_rfl) (by kernel_rfl)
theorem Tryz.fnOK17 : FnOK Tryz.prog 17 Tryz.fi17 := FnOK.of Tryz.func17 (by kernel_rfl) rfl (by kernel_rfl) (by kernel_rfl)
theorem Tryz.fnOK18 : FnOK Tryz.prog 18 Tryz.fi18 := FnOK.of Tryz.func18 (by kernel_rfl) rfl (by kernel_rfl) (by kernel_rfl)
theorem Tryz.fnOK19 : FnOK Tryz.prog 19 Tryz.fi19 := FnOK.of Tryz.func19 (by kernel_rfl) rfl (by kernel_rfl) (by kernel_rfl)
theorem Tryz.fnOK20 : FnOK Tryz.prog 20 Tryz.fi20 := FnOK.of Tryz.func20 (by kernel_rfl) rfl (by kernel_rfl) (by kernel_rfl)
theorem Tryz.fnOK21 : FnOK Tryz.prog 21 Tryz.fi21 := FnOK.of Tryz.func21 (by kernel_rfl) rfl (by kernel_rfl) (by kernel_rfl)
theorem Tryz.fnOK22 : FnOK Tryz.prog 22 Tryz.fi22 := FnOK.of Tryz.func22 (by kernel_rfl) rfl (by kernel_rfl) (by kernel_rfl)
theorem Tryz.fnOK23 : FnOK Tryz.prog 23 Tryz.fi23 := FnOK.of Tryz.func23 (by kernel_rfl) rfl (by kernel_rfl) (by kernel_rfl)
theorem Tryz.fnOK24 : FnOK Tryz.prog 24 Tryz.fi24 := FnOK.of Tryz.func24 (by kernel_rfl) rfl (by kernel_rfl) (by kernel_rfl)
theorem Tryz.fnOK25 : FnOK Tryz.prog 25 Tryz.fi25 := FnOK.of Tryz.func25 (by kernel_rfl) rfl (by kernel_rfl) (by kernel_rfl)
theorem Tryz.fnOK26 : FnOK Tryz.prog 26 Tryz.fi26 := FnOK.of Tryz.func26 (by kernel_rfl) rfl (by kernel_rfl) (by kernel_rfl)
theorem Tryz.fnOK27 : FnOK Tryz.prog 27 Tryz.fi27 := FnOK.of Tryz.func27 (by kernel_rfl) rfl (by kernel_rfl) (by kernel_rfl)
theorem Tryz.fnOK28 : FnOK Tryz.prog 28 Tryz.fi28 := FnOK.of Tryz.func28 (by kernel_rfl) rfl (by kernel_rfl) (by kernel_rfl)
theorem Tryz.fnOK29 : FnOK Tryz.prog 29 Tryz.fi29 := FnOK.of Tryz.func29 (by kernel_rfl) rfl (by kernel_rfl) (by kernel_rfl)
theorem Tryz.fnOK30 : FnOK Tryz.prog 30 Tryz.fi30 := FnOK.of Tryz.func30 (by kernel_rfl) rfl (by kernel_rfl) (by kernel_rfl)
theorem Tryz.fnOK31 : FnOK Tryz.prog 31 Tryz.fi31 := FnOK.of Tryz.func31 (by kernel_rfl) rfl (by kernel_rfl) (by kernel_rfl)
theorem Tryz.fnOK32 : FnOK Tryz.prog 32 Tryz.fi32 := FnOK.of Tryz.func32 (by kernel_rfl) rfl (by kernel_rfl) (by kernel_rfl)
theorem Tryz.fnOK33 : FnOK Tryz.prog 33 Tryz.fi33 := FnOK.of Tryz.func33 (by kernel_rfl) rfl (by kernel_rfl) (by kernel_rfl)
theorem Tryz.fnOK34 : FnOK Tryz.prog 34 Tryz.fi34 := FnOK.of Tryz.func34 (by kernel_rfl) rfl (by kernel_rfl) (by kernel_rfl)
theorem Tryz.fnOK35 : FnOK Tryz.prog 35 Tryz.fi35 := FnOK.of Tryz.func35 (by kernel_rfl) rfl (by kernel_rfl) (by kernel_rfl)
theorem Tryz.fnOK36 : FnOK Tryz.prog 36 Tryz.fi36 := FnOK.of Tryz.func36 (by kernel_rfl) rfl (by kernel_rfl) (by kernel_rfl)
theorem Tryz.fnOK37 : FnOK Tryz.prog 37 Tryz.fi37 := FnOK.of Tryz.func37 (by kernel_rfl) rfl (by kernel_rfl) (by kernel_rfl)
theorem Tryz.fnOK38 : FnOK Tryz.prog 38 Tryz.fi38 := FnOK.of Tryz.func38 (by kernel_rfl) rfl (by kernel_rfl) (by kernel_rfl)
theorem Tryz.fnOK39 : FnOK Tryz.prog 39 Tryz.fi39 := FnOK.of Tryz.func39 (by kernel_rfl) rfl (by kernel_rfl) (by kernel_rfl)
theorem Tryz.fnOK40 : FnOK Tryz.prog 40 Tryz.fi40 := FnOK.of Tryz.func40 (by kernel_rfl) rfl (by kernel_rfl) (by kernel_rfl)
theorem Tryz.fnOK41 : FnOK Tryz.prog 41 Tryz.fi41 := FnOK.of Tryz.func41 (by kernel_rfl) rfl (by kernel_rfl) (by kernel_rfl)
theorem Tryz.fnOK42 : FnOK Tryz.prog 42 Tryz.fi42 := FnOK.of Tryz.func42 (by kernel_rfl) rfl (by kernel_rfl) (by kernel_rfl)
theorem Tryz.fnOK43 : FnOK Tryz.prog 43 Tryz.fi43 := FnOK.of Tryz.func43 (by kernel_rfl) rfl (by kernel_rfl) (by kernel_rfl)
theorem Tryz.fnOK44 : FnOK Tryz.prog 44 Tryz.fi44 := FnOK.of Tryz.func44 (by kernel_rfl) rfl (by kernel_rfl) (by kernel_rfl)
theorem Tryz.fnOK45 : FnOK Tryz.prog 45 Tryz.fi45 := FnOK.of Tryz.func45 (by kernel_rfl) rfl (by kernel_rfl) (by kernel_rfl)
theorem Tryz.fnOK46 : FnOK Tryz.prog 46 Tryz.fi46 := FnOK.of Tryz.func46 (by kernel_rfl) rfl (by kernel_rfl) (by kernel_rfl)
theorem Tryz.fnOK47 : FnOK Tryz.prog 47 Tryz.fi47 := FnOK.of Tryz.func47 (by kernel_rfl) rfl (by kernel_rfl) (by kernel_rfl)
theorem Tryz.fnOK48 : FnOK Tryz.prog 48 Tryz.fi48 := FnOK.of Tryz.func48 (by kernel_rfl) rfl (by kernel_rfl) (by kernel_rfl)
theorem Tryz.fnOK49 : FnOK Tryz.prog 49 Tryz.fi49 := FnOK.of Tryz.func49 (by kernel_rfl) rfl (by kernel_rfl) (by kernel_rfl)
theorem Tryz.fnOK50 : FnOK Tryz.prog 50 Tryz.fi50 := FnOK.of Tryz.func50 (by kernel_rfl) rfl (by kernel_rfl) (by kernel_rfl)
theorem Tryz.fnOK51 : FnOK Tryz.prog 51 Tryz.fi51 := FnOK.of Tryz.func51 (by kernel_rfl) rfl (by kernel_rfl) (by kernel_rfl)
theorem Tryz.fnOK52 : FnOK Tryz.prog 52 Tryz.fi52 := FnOK.of Tryz.func52 (by kernel_rfl) rfl (by kernel_rfl) (by kernel_rfl)
theorem Tryz.fnOK53 : FnOK Tryz.prog 53 Tryz.fi53 := FnOK.of Tryz.func53 (by kernel_rfl) rfl (by kernel_rfl) (by kernel_rfl)
theorem Tryz.fnOK54 : FnOK Tryz.prog 54 Tryz.fi54 := FnOK.of Tryz.func54 (by kernel_rfl) rfl (by kernel_rfl) (by kernel_rfl)
theorem Tryz.fnOK55 : FnOK Tryz.prog 55 Tryz.fi55 := FnOK.of Tryz.func55 (by kernel_rfl) rfl (by kernel_rfl) (by kernel_rfl)
theorem Tryz.fnOK56 : FnOK Tryz.prog 56 Tryz.fi56 := FnOK.of Tryz.func56 (by kernel_rfl) rfl (by kernel_rfl) (by kernel_rfl)
theorem Tryz.fnOK57 : FnOK Tryz.prog 57 Tryz.fi57 := FnOK.of Tryz.func57 (by kernel_rfl) rfl (by kernel_rfl) (by kernel_rfl)
theorem Tryz.fnOK58 : FnOK Tryz.prog 58 Tryz.fi58 := FnOK.of Tryz.func58 (by kernel_rfl) rfl (by kernel_rfl) (by kernel_rfl)
theorem Tryz.fnOK59 : FnOK Tryz.prog 59 Tryz.fi59 := FnOK.of Tryz.func59 (by kernel_rfl) rfl (by kernel_rfl) (by kernel_rfl)
theorem Tryz.fnOK60 : FnOK Tryz.prog 60 Tryz.fi60 := FnOK.of Tryz.func60 (by kernel_rfl) rfl (by kernel_rfl) (by kernel_rfl)
theorem Tryz.fnOK61 : FnOK Tryz.prog 61 Tryz.fi61 := FnOK.of Tryz.func61 (by kernel_rfl) rfl (by kernel_rfl) (by kernel_rfl)
theorem Tryz.fnOK62 : FnOK Tryz.prog 62 Tryz.fi62 := FnOK.of Tryz.func62 (by kernel_rfl) rfl (by kernel_rfl) (by kernel_rfl)
theorem Tryz.fnOK63 : FnOK Tryz.prog 63 Tryz.fi63 := FnOK.of Tryz.func63 (by kernel_rfl) rfl (by kernel_rfl) (by kernel_rfl)
theorem Tryz.fnOK64 : FnOK Tryz.prog 64 Tryz.fi64 := FnOK.of Tryz.func64 (by kernel_rfl) rfl (by kernel_rfl) (by kernel_rfl)
theorem Tryz.fnOK65 : FnOK Tryz.prog 65 Tryz.fi65 := FnOK.of Tryz.func65 (by kernel_rfl) rfl (by kernel_rfl) (by kernel_rfl)
theorem Tryz.fnOK66 : FnOK Tryz.prog 66 Tryz.fi66 := FnOK.of Tryz.func66 (by kernel_rfl) rfl (by kernel_rfl) (by kernel_rfl)
theorem Tryz.fnOK67 : FnOK Tryz.prog 67 Tryz.fi67 := FnOK.of Tryz.func67 (by kernel_rfl) rfl (by kernel_rfl) (by kernel_rfl)
theorem Tryz.fnOK68 : FnOK Tryz.prog 68 Tryz.fi68 := FnOK.of Tryz.func68 (by kernel_rfl) rfl (by kernel_rfl) (by kernel_rfl)
theorem Tryz.fnOK69 : FnOK Tryz.prog 69 Tryz.fi69 := FnOK.of Tryz.func69 (by kernel_rfl) rfl (by kernel_rfl) (by kernel_rfl)
theorem Tryz.fnOK70 : FnOK Tryz.prog 70 Tryz.fi70 := FnOK.of Tryz.func70 (by kernel_rfl) rfl (by kernel_rfl) (by kernel_rfl)
theorem Tryz.fnOK71 : FnOK Tryz.prog 71 Tryz.fi71 := FnOK.of Tryz.func71 (by kernel_rfl) rfl (by kernel_rfl) (by kernel_rfl)
theorem Tryz.fnOK72 : FnOK Tryz.prog 72 Tryz.fi72 := FnOK.of Tryz.func72 (by kernel_rfl) rfl (by kernel_rfl) (by kernel_rfl)
theorem Tryz.fnOK73 : FnOK Tryz.prog 73 Tryz.fi73 := FnOK.of Tryz.func73 (by kernel_rfl) rfl (by kernel_rfl) (by kernel_rfl)
theorem Tryz.fnOK74 : FnOK Tryz.prog 74 Tryz.fi74 := FnOK.of Tryz.func74 (by kernel_rfl) rfl (by kernel_rfl) (by kernel_rfl)
theorem Tryz.fnOK75 : FnOK Tryz.prog 75 Tryz.fi75 := FnOK.of Tryz.func75 (by kernel_rfl) rfl (by kernel_rfl) (by kernel_rfl)
theorem Tryz.fnOK76 : FnOK Tryz.prog 76 Tryz.fi76 := FnOK.of Tryz.func76 (by kernel_rfl) rfl (by kernel_rfl) (by kernel_rfl)
theorem Tryz.fnOK77 : FnOK Tryz.prog 77 Tryz.fi77 := FnOK.of Tryz.func77 (by kernel_rfl) rfl (by kernel_rfl) (by kernel_rfl)
theorem Tryz.fnOK78 : FnOK Tryz.prog 78 Tryz.fi78 := FnOK.of Tryz.func78 (by kernel_rfl) rfl (by kernel_rfl) (by kernel_rfl)
theorem Tryz.fnOK79 : FnOK Tryz.prog 79 Tryz.fi79 := FnOK.of Tryz.func79 (by kernel_rfl) rfl (by kernel_rfl) (by kernel_rfl)
theorem Tryz.fnOK80 : FnOK Tryz.prog 80 Tryz.fi80 := FnOK.of Tryz.func80 (by kernel_rfl) rfl (by kernel_rfl) (by kernel_rfl)
theorem Tryz.fnOK81 : FnOK Tryz.prog 81 Tryz.fi81 := FnOK.of Tryz.func81 (by kernel_rfl) rfl (by kernel_rfl) (by kernel_rfl)
theorem Tryz.fnOK82 : FnOK Tryz.prog 82 Tryz.fi82 := FnOK.of Tryz.func82 (by kernel_rfl) rfl (by kernel_rfl) (by kernel_rfl)
theorem Tryz.fnOK83 : FnOK Tryz.prog 83 Tryz.fi83 := FnOK.of Tryz.func83 (by kernel_rfl) rfl (by kernel_rfl) (by kernel_rfl)
theorem Tryz.fnOK84 : FnOK Tryz.prog 84 Tryz.fi84 := FnOK.of Tryz.func84 (by kernel_rfl) rfl (by kernel_rfl) (by kernel_rfl)
theorem Tryz.fnOK85 : FnOK Tryz.prog 85 Tryz.fi85 := FnOK.of Tryz.func85 (by kernel_rfl) rfl (by kernel_rfl) (by kernel_rfl)
theorem Tryz.fnOK86 : FnOK Tryz.prog 86 Tryz.fi86 := FnOK.of Tryz.func86 (by kernel_rfl) rfl (by kernel_rfl) (by kernel_rfl)
theorem Tryz.fnOK87 : FnOK Tryz.prog 87 Tryz.fi87 := FnOK.of Tryz.func87 (by kernel_rfl) rfl (by kernel_rfl) (by kernel_rfl)
theorem Tryz.fnOK88 : FnOK Tryz.prog 88 Tryz.fi88 := FnOK.of Tryz.func88 (by kernel_rfl) rfl (by kernel_rfl) (by kernel_rfl)
theorem Tryz.fnOK89 : FnOK Tryz.prog 89 Tryz.fi89 := FnOK.of Tryz.func89 (by kernel_rfl) rfl (by kernel_rfl) (by kernel_rfl)
theorem Tryz.fnOK90 : FnOK Tryz.prog 90 Tryz.fi90 := FnOK.of Tryz.func90 (by kernel_rfl) rfl (by kernel_rfl) (by kernel_rfl)
theorem Tryz.fnOK91 : FnOK Tryz.prog 91 Tryz.fi91 := FnOK.of Tryz.func91 (by kernel_rfl) rfl (by kernel_rfl) (by kernel_rfl)
theorem Tryz.fnOK92 : FnOK Tryz.prog 92 Tryz.fi92 := FnOK.of Tryz.func92 (by kernel_rfl) rfl (by kernel_rfl) (by kernel_rfl)
theorem Tryz.fnOK93 : FnOK Tryz.prog 93 Tryz.fi93 := FnOK.of Tryz.func93 (by kernel_rfl) rfl (by kernel_rfl) (by kernel_rfl)
theorem Tryz.fnOK94 : FnOK Tryz.prog 94 Tryz.fi94 := FnOK.of Tryz.func94 (by kernel_rfl) rfl (by kernel_rfl) (by kernel_rfl)
theorem Tryz.fnOK95 : FnOK Tryz.prog 95 Tryz.fi95 := FnOK.of Tryz.func95 (by kernel_rfl) rfl (by kernel_rfl) (by kernel_rfl)
theorem Tryz.fnOK96 : FnOK Tryz.prog 96 Tryz.fi96 := FnOK.of Tryz.func96 (by kernel_rfl) rfl (by kernel_rfl) (by kernel_rfl)
theorem Tryz.fnOK97 : FnOK Tryz.prog 97 Tryz.fi97 := FnOK.of Tryz.func97 (by kernel_rfl) rfl (by kernel_rfl) (by kernel_rfl)
theorem Tryz.fnOK98 : FnOK Tryz.prog 98 Tryz.fi98 := FnOK.of Tryz.func98 (by kernel_rfl) rfl (by kernel_rfl) (by kernel_rfl)
theorem Tryz.fnOK99 : FnOK Tryz.prog 99 Tryz.fi99 := FnOK.of Tryz.func99 (by kernel_rfl) rfl (by kernel_rfl) (by kernel_rfl)
theorem Tryz.fnOK100 : FnOK Tryz.prog 100 Tryz.fi100 := FnOK.of Tryz.func100 (by kernel_rfl) rfl (by kernel_rfl) (by kernel_rfl)
theorem Tryz.fnOK101 : FnOK Tryz.prog 101 Tryz.fi101 := FnOK.of Tryz.func101 (by kernel_rfl) rfl (by kernel_rfl) (by kernel_rfl)
theorem Tryz.fnOK102 : FnOK Tryz.prog 102 Tryz.fi102 := FnOK.of Tryz.func102 (by kernel_rfl) rfl (by kernel_rfl) (by kernel_rfl)
theorem Tryz.fnOK103 : FnOK Tryz.prog 103 Tryz.fi103 := FnOK.of Tryz.func103 (by kernel_rfl) rfl (by kernel_rfl) (by kernel_rfl)
theorem Tryz.fnOK104 : FnOK Tryz.prog 104 Tryz.fi104 := FnOK.of Tryz.func104 (by kernel_rfl) rfl (by kernel_rfl) (by kernel_rfl)
theorem Tryz.fnOK105 : FnOK Tryz.prog 105 Tryz.fi105 := FnOK.of Tryz.func105 (by kernel_rfl) rfl (by kernel_rfl) (by kernel_rfl)
theorem Tryz.fnOK106 : FnOK Tryz.prog 106 Tryz.fi106 := FnOK.of Tryz.func106 (by kernel_rfl) rfl (by kernel_rfl) (by kernel_rfl)
theorem Tryz.fnOK107 : FnOK Tryz.prog 107 Tryz.fi107 := FnOK.of Tryz.func107 (by kernel_rfl) rfl (by kernel_rfl) (by kernel_rfl)
theorem Tryz.fnOK108 : FnOK Tryz.prog 108 Tryz.fi108 := FnOK.of Tryz.func108 (by kernel_rfl) rfl (by kernel_rfl) (by kernel_rfl)
theorem Tryz.fnOK109 : FnOK Tryz.prog 109 Tryz.fi109 := FnOK.of Tryz.func109 (by kernel_rfl) rfl (by kernel_rfl) (by kernel_rfl)
theorem Tryz.fnOK110 : FnOK Tryz.prog 110 Tryz.fi110 := FnOK.of Tryz.func110 (by kernel_rfl) rfl (by kernel_rfl) (by kernel_rfl)
theorem Tryz.fnOK111 : FnOK Tryz.prog 111 Tryz.fi111 := FnOK.of Tryz.func111 (by kernel_rfl) rfl (by kernel_rfl) (by kernel_rfl)
theorem Tryz.fnOK112 : FnOK Tryz.prog 112 Tryz.fi112 := FnOK.of Tryz.func112 (by kernel_rfl) rfl (by kernel_rfl) (by kernel_rfl)
theorem Tryz.fnOK113 : FnOK Tryz.prog 113 Tryz.fi113 := FnOK.of Tryz.func113 (by kernel_rfl) rfl (by kernel_rfl) (by kernel_rfl)
theorem Tryz.fnOK114 : FnOK Tryz.prog 114 Tryz.fi114 := FnOK.of Tryz.func114 (by kernel_rfl) rfl (by kernel_rfl) (by kernel_rfl)
theorem Tryz.fnOK115 : FnOK Tryz.prog 115 Tryz.fi115 := FnOK.of Tryz.func115 (by kernel_rfl) rfl (by kernel_rfl) (by kernel_rfl)
theorem Tryz.fnOK116 : FnOK Tryz.prog 116 Tryz.fi116 := FnOK.of Tryz.func116 (by kernel_rfl) rfl (by kernel_rfl) (by kernel_rfl)
theorem Tryz.fnOK117 : FnOK Tryz.prog 117 Tryz.fi117 := FnOK.of Tryz.func117 (by kernel_rfl) rfl (by kernel_rfl) (by kernel_rfl)
theorem Tryz.fnOK118 : FnOK Tryz.prog 118 Tryz.fi118 := FnOK.of Tryz.func118 (by kernel_rfl) rfl (by kernel_rfl) (by kernel_rfl)
theorem Tryz.fnOK119 : FnOK Tryz.prog 119 Tryz.fi119 := FnOK.of Tryz.func119 (by kernel_rfl) rfl (by kernel_rfl) (by kernel_rfl)
theorem Tryz.fnOK120 : FnOK Tryz.prog 120 Tryz.fi120 := FnOK.of Tryz.func120 (by kernel_rfl) rfl (by kernel_rfl) (by kernel_rfl)
theorem Tryz.fnOK121 : FnOK Tryz.prog 121 Tryz.fi121 := FnOK.of Tryz.func121 (by kernel_rfl) rfl (by kernel_rfl) (by kernel_rfl)
theorem Tryz.fnOK122 : FnOK Tryz.prog 122 Tryz.fi122 := FnOK.of Tryz.func122 (by kernel_rfl) rfl (by kernel_rfl) (by kernel_rfl)
theorem Tryz.fnOK123 : FnOK Tryz.prog 123 Tryz.fi123 := FnOK.of Tryz.func123 (by kernel_rfl) rfl (by kernel_rfl) (by kernel_rfl)
theorem Tryz.fnOK124 : FnOK Tryz.prog 124 Tryz.fi124 := FnOK.of Tryz.func124 (by kernel_rfl) rfl (by kernel_rfl) (by kernel_rfl)
theorem Tryz.fnOK125 : FnOK Tryz.prog 125 Tryz.fi125 := FnOK.of Tryz.func125 (by kernel_rfl) rfl (by kernel_rfl) (by kernel_rfl)
theorem Tryz.fnOK126 : FnOK Tryz.prog 126 Tryz.fi126 := FnOK.of Tryz.func126 (by kernel_rfl) rfl (by kernel_rfl) (by kernel_rfl)
theorem Tryz.fnOK127 : FnOK Tryz.prog 127 Tryz.fi127 := FnOK.of Tryz.func127 (by kernel_rfl) rfl (by kernel_rfl) (by kernel_rfl)
theorem Tryz.fnOK128 : FnOK Tryz.prog 128 Tryz.fi128 := FnOK.of Tryz.func128 (by kernel_rfl) rfl (by kernel_rfl) (by kernel_rfl)
theorem Tryz.fnOK129 : FnOK Tryz.prog 129 Tryz.fi129 := FnOK.of Tryz.func129 (by kernel_rfl) rfl (by kernel_rfl) (by kernel_rfl)
theorem Tryz.fnOK130 : FnOK Tryz.prog 130 Tryz.fi130 := FnOK.of Tryz.func130 (by kernel_rfl) rfl (by kernel_rfl) (by kernel_rfl)
theorem Tryz.fnOK131 : FnOK Tryz.prog 131 Tryz.fi131 := FnOK.of Tryz.func131 (by kernel_rfl) rfl (by kernel_rfl) (by kernel_rfl)
theorem Tryz.fnOK132 : FnOK Tryz.prog 132 Tryz.fi132 := FnOK.of Tryz.func132 (by kernel_rfl) rfl (by kernel_rfl) (by kernel_rfl)
theorem Tryz.fnOK133 : FnOK Tryz.prog 133 Tryz.fi133 := FnOK.of Tryz.func133 (by kernel_rfl) rfl (by kernel_rfl) (by kernel_rfl)
theorem Tryz.fnOK134 : FnOK Tryz.prog 134 Tryz.fi134 := FnOK.of Tryz.func134 (by kernel_rfl) rfl (by kernel_rfl) (by kernel_rfl)
theorem Tryz.fnOK135 : FnOK Tryz.prog 135 Tryz.fi135 := FnOK.of Tryz.func135 (by kernel_rfl) rfl (by kernel_rfl) (by kernel_rfl)
theorem Tryz.fnOK136 : FnOK Tryz.prog 136 Tryz.fi136 := FnOK.of Tryz.func136 (by kernel_rfl) rfl (by kernel_rfl) (by kernel_rfl)
theorem Tryz.fnOK137 : FnOK Tryz.prog 137 Tryz.fi137 := FnOK.of Tryz.func137 (by kernel_rfl) rfl (by kernel_rfl) (by kernel_rfl)
theorem Tryz.fnOK138 : FnOK Tryz.prog 138 Tryz.fi138 := FnOK.of Tryz.func138 (by kernel_rfl) rfl (by kernel_rfl) (by kernel_rfl)
theorem Tryz.fnOK139 : FnOK Tryz.prog 139 Tryz.fi139 := FnOK.of Tryz.func139 (by kernel_rfl) rfl (by kernel_rfl) (by kernel_rfl)
theorem Tryz.fnOK140 : FnOK Tryz.prog 140 Tryz.fi140 := FnOK.of Tryz.func140 (by kernel_rfl) rfl (by kernel_rfl) (by kernel_rfl)
theorem Tryz.fnOK141 : FnOK Tryz.prog 141 Tryz.fi141 := FnOK.of Tryz.func141 (by kernel_rfl) rfl (by kernel_rfl) (by kernel_rfl)
theorem Tryz.fnOK142 : FnOK Tryz.prog 142 Tryz.fi142 := FnOK.of Tryz.func142 (by kernel_rfl) rfl (by kernel_rfl) (by kernel_rfl)
theorem Tryz.fnOK143 : FnOK Tryz.prog 143 Tryz.fi143 := FnOK.of Tryz.func143 (by kernel_rfl) rfl (by kernel_rfl) (by kernel_rfl)
theorem Tryz.fnOK144 : FnOK Tryz.prog 144 Tryz.fi144 := FnOK.of Tryz.func144 (by kernel_rfl) rfl (by kernel_rfl) (by kernel_rfl)
theorem Tryz.fnOK145 : FnOK Tryz.prog 145 Tryz.fi145 := FnOK.of Tryz.func145 (by kernel_rfl) rfl (by kernel_rfl) (by kernel_rfl)
theorem Tryz.fnOK146 : FnOK Tryz.prog 146 Tryz.fi146 := FnOK.of Tryz.func146 (by kernel_rfl) rfl (by kernel_rfl) (by kernel_rfl)
theorem Tryz.fnOK147 : FnOK Tryz.prog 147 Tryz.fi147 := FnOK.of Tryz.func147 (by kernel_rfl) rfl (by kernel_rfl) (by kernel_rfl)
theorem Tryz.fnOK148 : FnOK Tryz.prog 148 Tryz.fi148 := FnOK.of Tryz.func148 (by kernel_rfl) rfl (by kernel_rfl) (by kernel_rfl)
theorem Tryz.fnOK149 : FnOK Tryz.prog 149 Tryz.fi149 := FnOK.of Tryz.func149 (by kernel_rfl) rfl (by kernel_rfl) (by kernel_rfl)
theorem Tryz.fnOK150 : FnOK Tryz.prog 150 Tryz.fi150 := FnOK.of Tryz.func150 (by kernel_rfl) rfl (by kernel_rfl) (by kernel_rfl)
theorem Tryz.fnOK151 : FnOK Tryz.prog 151 Tryz.fi151 := FnOK.of Tryz.func151 (by kernel_rfl) rfl (by kernel_rfl) (by kernel_rfl)
theorem Tryz.fnOK152 : FnOK Tryz.prog 152 Tryz.fi152 := FnOK.of Tryz.func152 (by kernel_rfl) rfl (by kernel_rfl) (by kernel_rfl)
theorem Tryz.fnOK153 : FnOK Tryz.prog 153 Tryz.fi153 := FnOK.of Tryz.func153 (by kernel_rfl) rfl (by kernel_rfl) (by kernel_rfl)
theorem Tryz.fnOK154 : FnOK Tryz.prog 154 Tryz.fi154 := FnOK.of Tryz.func154 (by kernel_rfl) rfl (by kernel_rfl) (by kernel_rfl)
theorem Tryz.tyAll : TrAll (TyOK Tryz.prog) Tryz.tyT := ⟨(fun _ h => by cases h), ⟨(fun _ h => by cases h), ⟨(fun _ h => by injection h with h; subst h; exact Tryz.tyOK3), ⟨(fun _ h => by cases h), ⟨(fun _ h => by cases h), ⟨(fun _ h => by cases h), trivial, ⟨(fun _ h => by cases h), trivial, ⟨(fun _ h => by injection h with h; subst h; exact Tryz.tyOK223), trivial, trivial⟩⟩⟩, ⟨(fun _ h => by injection h with h; subst h; exact Tryz.tyOK47), trivial, trivial⟩⟩, ⟨(fun _ h => by injection h with h; subst h; exact Tryz.tyOK23), ⟨(fun _ h => by cases h), ⟨(fun _ h => by cases h), trivial, ⟨(fun _ h => by injection h with h; subst h; exact Tryz.tyOK199), trivial, trivial⟩⟩, trivial⟩, trivial⟩⟩, ⟨(fun _ h => by cases h), ⟨(fun _ h => by cases h), ⟨(fun _ h => by injection h with h; subst h; exact Tryz.tyOK35), ⟨(fun _ h => by cases h), ⟨(fun _ h => by injection h with h; subst h; exact Tryz.tyOK131), trivial, trivial⟩, trivial⟩, ⟨(fun _ h => by injection h with h; subst h; exact Tryz.tyOK99), trivial, ⟨(fun _ h => by injection h with h; subst h; exact Tryz.tyOK227), trivial, trivial⟩⟩⟩, ⟨(fun _ h => by injection h with h; subst h; exact Tryz.tyOK51), trivial, ⟨(fun _ h => by injection h with h; subst h; exact Tryz.tyOK115), ⟨(fun _ h => by injection h with h; subst h; exact Tryz.tyOK179), trivial, trivial⟩, trivial⟩⟩⟩, ⟨(fun _ h => by injection h with h; subst h; exact Tryz.tyOK27), ⟨(fun _ h => by injection h with h; subst h; exact Tryz.tyOK43), ⟨(fun _ h => by injection h with h; subst h; exact Tryz.tyOK75), trivial, trivial⟩, trivial⟩, ⟨(fun _ h => by cases h), trivial, ⟨(fun _ h => by cases h), ⟨(fun _ h => by injection h with h; subst h; exact Tryz.tyOK187), trivial, trivial⟩, trivial⟩⟩⟩⟩⟩, ⟨(fun _ h => by injection h with h; subst h; exact Tryz.tyOK5), ⟨(fun _ h => by injection h with h; subst h; exact Tryz.tyOK9), ⟨(fun _ h => by cases h), ⟨(fun _ h => by injection h with h; subst h; exact Tryz.tyOK33), ⟨(fun _ h => by injection h with h; subst h; exact Tryz.tyOK65), trivial, ⟨(fun _ h => by injection h with h; subst h; exact Tryz.tyOK193), trivial, trivial⟩⟩, ⟨(fun _ h => by cases h), trivial, ⟨(fun _ h => by injection h with h; subst h; exact Tryz.tyOK225), trivial, trivial⟩⟩⟩, ⟨(fun _ h => by injection h with h; subst h; exact Tryz.tyOK49), trivial, trivial⟩⟩, ⟨(fun _ h => by injection h with h; subst h; exact Tryz.tyOK25), ⟨(fun _ h => by injection h with h; subst h; exact Tryz.tyOK41), ⟨(fun _ h => by injection h with h; subst h; exact Tryz.tyOK73), trivial, trivial⟩, trivial⟩, trivial⟩⟩, ⟨(fun _ h => by cases h), ⟨(fun _ h => by cases h), ⟨(fun _ h => by injection h with h; subst h; exact Tryz.tyOK37), trivial, trivial⟩, trivial⟩, ⟨(fun _ h => by cases h), ⟨(fun _ h => by injection h with h; subst h; exact Tryz.tyOK45), ⟨(fun _ h => by injection h with h; subst h; exact Tryz.tyOK77), trivial, trivial⟩, trivial⟩, ⟨(fun _ h => by cases h), trivial, ⟨(fun _ h => by cases h), ⟨(fun _ h => by injection h with h; subst h; exact Tryz.tyOK189), trivial, trivial⟩, trivial⟩⟩⟩⟩⟩⟩, ⟨(fun _ h => by injection h with h; subst h; exact Tryz.tyOK2), ⟨(fun _ h => by injection h with h; subst h; exact Tryz.tyOK4), ⟨(fun _ h => by cases h), ⟨(fun _ h => by cases h), ⟨(fun _ h => by injection h with h; subst h; exact Tryz.tyOK32), trivial, trivial⟩, ⟨(fun _ h => by injection h with h; subst h; exact Tryz.tyOK48), ⟨(fun _ h => by cases h), ⟨(fun _ h => by injection h with h; subst h; exact Tryz.tyOK144), trivial, trivial⟩, trivial⟩, ⟨(fun _ h => by injection h with h; subst h; exact Tryz.tyOK112), trivial, trivial⟩⟩⟩, ⟨(fun _ h => by injection h with h; subst h; exact Tryz.tyOK24), ⟨(fun _ h => by injection h with h; subst h; exact Tryz.tyOK40), ⟨(fun _ h => by injection h with h; subst h; exact Tryz.tyOK72), trivial, trivial⟩, ⟨(fun _ h => by injection h with h; subst h; exact Tryz.tyOK104), trivial, trivial⟩⟩, ⟨(fun _ h => by cases h), ⟨(fun _ h => by injection h with h; subst h; exact Tryz.tyOK88), trivial, trivial⟩, trivial⟩⟩⟩, ⟨(fun _ h => by cases h), ⟨(fun _ h => by cases h), ⟨(fun _ h => by injection h with h; subst h; exact Tryz.tyOK36), trivial, trivial⟩, ⟨(fun _ h => by cases h), ⟨(fun _ h => by injection h with h; subst h; exact Tryz.tyOK84), trivial, trivial⟩, trivial⟩⟩, ⟨(fun _ h => by injection h with h; subst h; exact Tryz.tyOK28), ⟨(fun _ h => by injection h with h; subst h; exact Tryz.tyOK44), trivial, trivial⟩, ⟨(fun _ h => by cases h), ⟨(fun _ h => by injection h with h; subst h; exact Tryz.tyOK92), trivial, trivial⟩, ⟨(fun _ h => by injection h with h; subst h; exact Tryz.tyOK124), trivial, trivial⟩⟩⟩⟩⟩, ⟨(fun _ h => by cases h), ⟨(fun _ h => by cases h), trivial, ⟨(fun _ h => by cases h), ⟨(fun _ h => by injection h with h; subst h; exact Tryz.tyOK42), trivial, trivial⟩, ⟨(fun _ h => by cases h), ⟨(fun _ h => by cases h), ⟨(fun _ h => by injection h with h; subst h; exact Tryz.tyOK154), trivial, trivial⟩, trivial⟩, ⟨(fun _ h => by injection h with h; subst h; exact Tryz.tyOK122), trivial, trivial⟩⟩⟩⟩, ⟨(fun _ h => by cases h), ⟨(fun _ h => by cases h), ⟨(fun _ h => by injection h with h; subst h; exact Tryz.tyOK38), trivial, trivial⟩, ⟨(fun _ h => by cases h), ⟨(fun _ h => by injection h with h; subst h; exact Tryz.tyOK86), trivial, trivial⟩, ⟨(fun _ h => by injection h with h; subst h; exact Tryz.tyOK118), trivial, trivial⟩⟩⟩, ⟨(fun _ h => by injection h with h; subst h; exact Tryz.tyOK30), trivial, ⟨(fun _ h => by cases h), ⟨(fun _ h => by injection h with h; subst h; exact Tryz.tyOK94), trivial, trivial⟩, trivial⟩⟩⟩⟩⟩⟩
theorem Tryz.fnAll : TrAll (FnOK Tryz.prog) Tryz.fnT := ⟨(fun _ h => by cases h), ⟨(fun _ h => by cases h), ⟨(fun _ h => by injection h with h; subst h; exact Tryz.fnOK3), ⟨(fun _ h => by injection h with h; subst h; exact Tryz.fnOK7), ⟨(fun _ h => by injection h with h; subst h; exact Tryz.fnOK15), ⟨(fun _ h => by injection h with h; subst h; exact Tryz.fnOK31), ⟨(fun _ h => by injection h with h; subst h; exact Tryz.fnOK63), ⟨(fun _ h => by injection h with h; subst h; exact Tryz.fnOK127), trivial, trivial⟩, trivial⟩, ⟨(fun _ h => by injection h with h; subst h; exact Tryz.fnOK95), trivial, trivial⟩⟩, ⟨(fun _ h => by injection h with h; subst h; exact Tryz.fnOK47), ⟨(fun _ h => by injection h with h; subst h; exact Tryz.fnOK79), ⟨(fun _ h => by injection h with h; subst h; exact Tryz.fnOK143), trivial, trivial⟩, trivial⟩, ⟨(fun _ h => by injection h with h; subst h; exact Tryz.fnOK111), trivial, trivial⟩⟩⟩, ⟨(fun _ h => by injection h with h; subst h; exact Tryz.fnOK23), ⟨(fun _ h => by injection h with h; subst h; exact Tryz.fnOK39), ⟨(fun _ h => by injection h with h; subst h; exact Tryz.fnOK71), ⟨(fun _ h => by injection h with h; subst h; exact Tryz.fnOK135), trivial, trivial⟩, trivial⟩, ⟨(fun _ h => by injection h with h; subst h; exact Tryz.fnOK103), trivial, trivial⟩⟩, ⟨(fun _ h => by injection h with h; subst h; exact Tryz.fnOK55), ⟨(fun _ h => by injection h with h; subst h; exact Tryz.fnOK87), ⟨(fun _ h => by injection h with h; subst h; exact Tryz.fnOK151), trivial, trivial⟩, trivial⟩, ⟨(fun _ h => by injection h with h; subst h; exact Tryz.fnOK119), trivial, trivial⟩⟩⟩⟩, ⟨(fun _ h => by injection h with h; subst h; exact Tryz.fnOK11), ⟨(fun _ h => by injection h with h; subst h; exact Tryz.fnOK19), ⟨(fun _ h => by injection h with h; subst h; exact Tryz.fnOK35), ⟨(fun _ h => by injection h with h; subst h; exact Tryz.fnOK67), ⟨(fun _ h => by injection h with h; subst h; exact Tryz.fnOK131), trivial, trivial⟩, trivial⟩, ⟨(fun _ h => by injection h with h; subst h; exact Tryz.fnOK99), trivial, trivial⟩⟩, ⟨(fun _ h => by injection h with h; subst h; exact Tryz.fnOK51), ⟨(fun _ h => by injection h with h; subst h; exact Tryz.fnOK83), ⟨(fun _ h => by injection h with h; subst h; exact Tryz.fnOK147), trivial, trivial⟩, trivial⟩, ⟨(fun _ h => by injection h with h; subst h; exact Tryz.fnOK115), trivial, trivial⟩⟩⟩, ⟨(fun _ h => by injection h with h; subst h; exact Tryz.fnOK27), ⟨(fun _ h => by injection h with h; subst h; exact Tryz.fnOK43), ⟨(fun _ h => by injection h with h; subst h; exact Tryz.fnOK75), ⟨(fun _ h => by injection h with h; subst h; exact Tryz.fnOK139), trivial, trivial⟩, trivial⟩, ⟨(fun _ h => by injection h with h; subst h; exact Tryz.fnOK107), trivial, trivial⟩⟩, ⟨(fun _ h => by injection h with h; subst h; exact Tryz.fnOK59), ⟨(fun _ h => by injection h with h; subst h; exact Tryz.fnOK91), trivial, trivial⟩, ⟨(fun _ h => by injection h with h; subst h; exact Tryz.fnOK123), trivial, trivial⟩⟩⟩⟩⟩, ⟨(fun _ h => by injection h with h; subst h; exact Tryz.fnOK5), ⟨(fun _ h => by injection h with h; subst h; exact Tryz.fnOK9), ⟨(fun _ h => by injection h with h; subst h; exact Tryz.fnOK17), ⟨(fun _ h => by injection h with h; subst h; exact Tryz.fnOK33), ⟨(fun _ h => by injection h with h; subst h; exact Tryz.fnOK65), ⟨(fun _ h => by injection h with h; subst h; exact Tryz.fnOK129), trivial, trivial⟩, trivial⟩, ⟨(fun _ h => by injection h with h; subst h; exact Tryz.fnOK97), trivial, trivial⟩⟩, ⟨(fun _ h => by injection h with h; subst h; exact Tryz.fnOK49), ⟨(fun _ h => by injection h with h; subst h; exact Tryz.fnOK81), ⟨(fun _ h => by injection h with h; subst h; exact Tryz.fnOK145), trivial, trivial⟩, trivial⟩, ⟨(fun _ h => by injection h with h; subst h; exact Tryz.fnOK113), trivial, trivial⟩⟩⟩, ⟨(fun _ h => by injection h with h; subst h; exact Tryz.fnOK25), ⟨(fun _ h => by injection h with h; subst h; exact Tryz.fnOK41), ⟨(fun _ h => by injection h with h; subst h; exact Tryz.fnOK73), ⟨(fun _ h => by injection h with h; subst h; exact Tryz.fnOK137), trivial, trivial⟩, trivial⟩, ⟨(fun _ h => by injection h with h; subst h; exact Tryz.fnOK105), trivial, trivial⟩⟩, ⟨(fun _ h => by injection h with h; subst h; exact Tryz.fnOK57), ⟨(fun _ h => by injection h with h; subst h; exact Tryz.fnOK89), ⟨(fun _ h => by injection h with h; subst h; exact Tryz.fnOK153), trivial, trivial⟩, trivial⟩, ⟨(fun _ h => by injection h with h; subst h; exact Tryz.fnOK121), trivial, trivial⟩⟩⟩⟩, ⟨(fun _ h => by injection h with h; subst h; exact Tryz.fnOK13), ⟨(fun _ h => by injection h with h; subst h; exact Tryz.fnOK21), ⟨(fun _ h => by injection h with h; subst h; exact Tryz.fnOK37), ⟨(fun _ h => by injection h with h; subst h; exact Tryz.fnOK69), ⟨(fun _ h => by injection h with h; subst h; exact Tryz.fnOK133), trivial, trivial⟩, trivial⟩, ⟨(fun _ h => by injection h with h; subst h; exact Tryz.fnOK101), trivial, trivial⟩⟩, ⟨(fun _ h => by injection h with h; subst h; exact Tryz.fnOK53), ⟨(fun _ h => by injection h with h; subst h; exact Tryz.fnOK85), ⟨(fun _ h => by injection h with h; subst h; exact Tryz.fnOK149), trivial, trivial⟩, trivial⟩, ⟨(fun _ h => by injection h with h; subst h; exact Tryz.fnOK117), trivial, trivial⟩⟩⟩, ⟨(fun _ h => by injection h with h; subst h; exact Tryz.fnOK29), ⟨(fun _ h => by injection h with h; subst h; exact Tryz.fnOK45), ⟨(fun _ h => by injection h with h; subst h; exact Tryz.fnOK77), ⟨(fun _ h => by injection h with h; subst h; exact Tryz.fnOK141), trivial, trivial⟩, trivial⟩, ⟨(fun _ h => by injection h with h; subst h; exact Tryz.fnOK109), trivial, trivial⟩⟩, ⟨(fun _ h => by injection h with h; subst h; exact Tryz.fnOK61), ⟨(fun _ h => by injection h with h; subst h; exact Tryz.fnOK93), trivial, trivial⟩, ⟨(fun _ h => by injection h with h; subst h; exact Tryz.fnOK125), trivial, trivial⟩⟩⟩⟩⟩⟩, ⟨(fun _ h => by cases h), ⟨(fun _ h => by injection h with h; subst h; exact Tryz.fnOK4), ⟨(fun _ h => by injection h with h; subst h; exact Tryz.fnOK8), ⟨(fun _ h => by injection h with h; subst h; exact Tryz.fnOK16), ⟨(fun _ h => by injection h with h; subst h; exact Tryz.fnOK32), ⟨(fun _ h => by injection h with h; subst h; exact Tryz.fnOK64), ⟨(fun _ h => by injection h with h; subst h; exact Tryz.fnOK128), trivial, trivial⟩, trivial⟩, ⟨(fun _ h => by injection h with h; subst h; exact Tryz.fnOK96), trivial, trivial⟩⟩, ⟨(fun _ h => by injection h with h; subst h; exact Tryz.fnOK48), ⟨(fun _ h => by injection h with h; subst h; exact Tryz.fnOK80), ⟨(fun _ h => by injection h with h; subst h; exact Tryz.fnOK144), trivial, trivial⟩, trivial⟩, ⟨(fun _ h => by injection h with h; subst h; exact Tryz.fnOK112), trivial, trivial⟩⟩⟩, ⟨(fun _ h => by injection h with h; subst h; exact Tryz.fnOK24), ⟨(fun _ h => by injection h with h; subst h; exact Tryz.fnOK40), ⟨(fun _ h => by injection h with h; subst h; exact Tryz.fnOK72), ⟨(fun _ h => by injection h with h; subst h; exact Tryz.fnOK136), trivial, trivial⟩, trivial⟩, ⟨(fun _ h => by injection h with h; subst h; exact Tryz.fnOK104), trivial, trivial⟩⟩, ⟨(fun _ h => by injection h with h; subst h; exact Tryz.fnOK56), ⟨(fun _ h => by injection h with h; subst h; exact Tryz.fnOK88), ⟨(fun _ h => by injection h with h; subst h; exact Tryz.fnOK152), trivial, trivial⟩, trivial⟩, ⟨(fun _ h => by injection h with h; subst h; exact Tryz.fnOK120), trivial, trivial⟩⟩⟩⟩, ⟨(fun _ h => by injection h with h; subst h; exact Tryz.fnOK12), ⟨(fun _ h => by injection h with h; subst h; exact Tryz.fnOK20), ⟨(fun _ h => by injection h with h; subst h; exact Tryz.fnOK36), ⟨(fun _ h => by injection h with h; subst h; exact Tryz.fnOK68), ⟨(fun _ h => by injection h with h; subst h; exact Tryz.fnOK132), trivial, trivial⟩, trivial⟩, ⟨(fun _ h => by injection h with h; subst h; exact Tryz.fnOK100), trivial, trivial⟩⟩, ⟨(fun _ h => by injection h with h; subst h; exact Tryz.fnOK52), ⟨(fun _ h => by injection h with h; subst h; exact Tryz.fnOK84), ⟨(fun _ h => by injection h with h; subst h; exact Tryz.fnOK148), trivial, trivial⟩, trivial⟩, ⟨(fun _ h => by injection h with h; subst h; exact Tryz.fnOK116), trivial, trivial⟩⟩⟩, ⟨(fun _ h => by injection h with h; subst h; exact Tryz.fnOK28), ⟨(fun _ h => by injection h with h; subst h; exact Tryz.fnOK44), ⟨(fun _ h => by injection h with h; subst h; exact Tryz.fnOK76), ⟨(fun _ h => by injection h with h; subst h; exact Tryz.fnOK140), trivial, trivial⟩, trivial⟩, ⟨(fun _ h => by injection h with h; subst h; exact Tryz.fnOK108), trivial, trivial⟩⟩, ⟨(fun _ h => by injection h with h; subst h; exact Tryz.fnOK60), ⟨(fun _ h => by injection h with h; subst h; exact Tryz.fnOK92), trivial, trivial⟩, ⟨(fun _ h => by injection h with h; subst h; exact Tryz.fnOK124), trivial, trivial⟩⟩⟩⟩⟩, ⟨(fun _ h => by injection h with h; subst h; exact Tryz.fnOK6), ⟨(fun _ h => by injection h with h; subst h; exact Tryz.fnOK10), ⟨(fun _ h => by injection h with h; subst h; exact Tryz.fnOK18), ⟨(fun _ h => by injection h with h; subst h; exact Tryz.fnOK34), ⟨(fun _ h => by injection h with h; subst h; exact Tryz.fnOK66), ⟨(fun _ h => by injection h with h; subst h; exact Tryz.fnOK130), trivial, trivial⟩, trivial⟩, ⟨(fun _ h => by injection h with h; subst h; exact Tryz.fnOK98), trivial, trivial⟩⟩, ⟨(fun _ h => by injection h with h; subst h; exact Tryz.fnOK50), ⟨(fun _ h => by injection h with h; subst h; exact Tryz.fnOK82), ⟨(fun _ h => by injection h with h; subst h; exact Tryz.fnOK146), trivial, trivial⟩, trivial⟩, ⟨(fun _ h => by injection h with h; subst h; exact Tryz.fnOK114), trivial, trivial⟩⟩⟩, ⟨(fun _ h => by injection h with h; subst h; exact Tryz.fnOK26), ⟨(fun _ h => by injection h with h; subst h; exact Tryz.fnOK42), ⟨(fun _ h => by injection h with h; subst h; exact Tryz.fnOK74), ⟨(fun _ h => by injection h with h; subst h; exact Tryz.fnOK138), trivial, trivial⟩, trivial⟩, ⟨(fun _ h => by injection h with h; subst h; exact Tryz.fnOK106), trivial, trivial⟩⟩, ⟨(fun _ h => by injection h with h; subst h; exact Tryz.fnOK58), ⟨(fun _ h => by injection h with h; subst h; exact Tryz.fnOK90), ⟨(fun _ h => by injection h with h; subst h; exact Tryz.fnOK154), trivial, trivial⟩, trivial⟩, ⟨(fun _ h => by injection h with h; subst h; exact Tryz.fnOK122), trivial, trivial⟩⟩⟩⟩, ⟨(fun _ h => by injection h with h; subst h; exact Tryz.fnOK14), ⟨(fun _ h => by injection h with h; subst h; exact Tryz.fnOK22), ⟨(fun _ h => by injection h with h; subst h; exact Tryz.fnOK38), ⟨(fun _ h => by injection h with h; subst h; exact Tryz.fnOK70), ⟨(fun _ h => by injection h with h; subst h; exact Tryz.fnOK134), trivial, trivial⟩, trivial⟩, ⟨(fun _ h => by injection h with h; subst h; exact Tryz.fnOK102), trivial, trivial⟩⟩, ⟨(fun _ h => by injection h with h; subst h; exact Tryz.fnOK54), ⟨(fun _ h => by injection h with h; subst h; exact Tryz.fnOK86), ⟨(fun _ h => by injection h with h; subst h; exact Tryz.fnOK150), trivial, trivial⟩, trivial⟩, ⟨(fun _ h => by injection h with h; subst h; exact Tryz.fnOK118), trivial, trivial⟩⟩⟩, ⟨(fun _ h => by injection h with h; subst h; exact Tryz.fnOK30), ⟨(fun _ h => by injection h with h; subst h; exact Tryz.fnOK46), ⟨(fun _ h => by injection h with h; subst h; exact Tryz.fnOK78), ⟨(fun _ h => by injection h with h; subst h; exact Tryz.fnOK142), trivial, trivial⟩, trivial⟩, ⟨(fun _ h => by injection h with h; subst h; exact Tryz.fnOK110), trivial, trivial⟩⟩, ⟨(fun _ h => by injection h with h; subst h; exact Tryz.fnOK62), ⟨(fun _ h => by injection h with h; subst h; exact Tryz.fnOK94), trivial, trivial⟩, ⟨(fun _ h => by injection h with h; subst h; exact Tryz.fnOK126), trivial, trivial⟩⟩⟩⟩⟩⟩⟩
theorem Tryz.mixed : Tryz.prog.follows .mixedOrders = true := by kernel_rfl
end Go.Proofs.YtkjkcoemloakhaaGreat
