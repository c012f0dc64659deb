/-
  Printed by wip/tools/gen.py.
-/
import Derived.Test.YtdaigbpaggnijaaOAbsF
import Derived.Test.YtdaigbpaggnijaaProg
import Derived.KernelRfl
set_option linter.unusedVariables false
set_option maxRecDepth 100000
namespace Go.Proofs.Ytdaigbpaggnijaa
open Go Go.Proofs.Ytdaigbpaggnijaa.Abs
abbrev ty3 : TI := ⟨.int IntKind.i64, 1, 8, .int .i64 0⟩
abbrev ty4 : TI := ⟨.bool, 1, 1, .bool false⟩
abbrev ty22 : TI := ⟨.slice 3, 1, 24, .slice none 0 0⟩
abbrev ty24 : TI := ⟨.struct #[{ name := "Window", type := 3, offset := 0, embedded := false, tag := "", pkgPath := "", byteOffset := 0 }, { name := "Out", type := 22, offset := 1, embedded := false, tag := "", pkgPath := "", byteOffset := 8 }], 2, 32, .agg #[.int .i64 0, .slice none 0 0]⟩
abbrev ty26 : TI := ⟨.int IntKind.i64, 1, 8, .int .i64 0⟩
abbrev ty33 : TI := ⟨.slice 24, 1, 24, .slice none 0 0⟩
abbrev ty44 : TI := ⟨.slice 45, 1, 24, .slice none 0 0⟩
abbrev ty45 : TI := ⟨.array 2 3, 2, 16, .agg #[.int .i64 0, .int .i64 0]⟩
abbrev tys : List (Nat × TI) := [(3, ty3), (4, ty4), (22, ty22), (24, ty24), (26, ty26), (33, ty33), (44, ty44), (45, ty45)]
theorem tysOk : TysOk Try.prog tys :=
  tysOk_cons (by kernel_rfl) (by kernel_rfl) rfl rfl (tysOk_cons (by kernel_rfl) (by kernel_rfl) rfl rfl (tysOk_cons (by kernel_rfl) (by kernel_rfl) rfl rfl (tysOk_cons (by kernel_rfl) (by kernel_rfl) rfl rfl (tysOk_cons (by kernel_rfl) (by kernel_rfl) rfl rfl (tysOk_cons (by kernel_rfl) (by kernel_rfl) rfl rfl (tysOk_cons (by kernel_rfl) (by kernel_rfl) rfl rfl (tysOk_cons (by kernel_rfl) (by kernel_rfl) rfl rfl (tysOk_nil))))))))
theorem mix : Try.prog.follows .mixedOrders = true := by kernel_rfl
abbrev gl : List (Nat × Array Value) := []
abbrev M : MeetsT := Meets Try.prog gl
abbrev N : ItT := Iter Try.prog gl
/-- omnibus/omnibuslaw15.CreditTells -/
abbrev keep3 : List Nat := [0, 1, 2, 3, 4, 5, 8, 12, 13, 14, 15, 16, 17, 18, 19, 20, 22, 24, 25, 26, 27, 28, 29, 30, 31, 32, 33, 34, 35, 36, 37, 38, 39, 40, 45, 67, 75, 92, 93, 94, 95, 109, 114, 115, 116, 117, 140, 198]
theorem go3 {ds : List V} {r : V} (hlen : Nat.ble ds.length Try.f3.ntmps = true) (hnd : nodupB (V.toks r) = true)
    (hW : Bd ⟨argTm 0 ds, ⟨[], [], 1000000, 0⟩⟩ → Code.W tys M N 0 [] Try.f3.ntmps keep3 (Try.f3.body.getD .skip) true [] (retQ tys Try.f3.results.toList r) ⟨argTm 0 ds, ⟨[], [], 1000000, 0⟩⟩) : Meets Try.prog gl 3 ds r :=
  meets_of mix tysOk (fun _ _ _ h => h) (fun _ _ _ h => h) Try.func3 (by decide) rfl keep3 1000000 hlen hnd hW
/-- omnibus/omnibuslaw15.CreditBounds -/
abbrev keep4 : List Nat := [0, 1, 4, 5, 6, 7, 8, 9, 10, 11, 12, 13, 14, 15, 16, 17, 18, 19, 20, 21, 22, 33, 41, 54, 62, 70, 81, 84, 91, 114, 116, 145]
theorem go4 {ds : List V} {r : V} (hlen : Nat.ble ds.length Try.f4.ntmps = true) (hnd : nodupB (V.toks r) = true)
    (hW : Bd ⟨argTm 0 ds, ⟨[], [], 1000000, 0⟩⟩ → Code.W tys M N 0 [] Try.f4.ntmps keep4 (Try.f4.body.getD .skip) true [] (retQ tys Try.f4.results.toList r) ⟨argTm 0 ds, ⟨[], [], 1000000, 0⟩⟩) : Meets Try.prog gl 4 ds r :=
  meets_of mix tysOk (fun _ _ _ h => h) (fun _ _ _ h => h) Try.func4 (by decide) rfl keep4 1000000 hlen hnd hW
/-- omnibus/omnibuslaw15.CreditGives -/
abbrev keep5 : List Nat := [0, 1, 2, 3, 8, 9, 10, 11, 12, 13, 14, 15, 16, 17, 18, 19, 20, 21, 22, 34]
theorem go5 {ds : List V} {r : V} (hlen : Nat.ble ds.length Try.f5.ntmps = true) (hnd : nodupB (V.toks r) = true)
    (hW : Bd ⟨argTm 0 ds, ⟨[], [], 1000000, 0⟩⟩ → Code.W tys M N 0 [] Try.f5.ntmps keep5 (Try.f5.body.getD .skip) true [] (retQ tys Try.f5.results.toList r) ⟨argTm 0 ds, ⟨[], [], 1000000, 0⟩⟩) : Meets Try.prog gl 5 ds r :=
  meets_of mix tysOk (fun _ _ _ h => h) (fun _ _ _ h => h) Try.func5 (by decide) rfl keep5 1000000 hlen hnd hW
/-- omnibus/omnibuslaw15.CreditAgain -/
abbrev keep6 : List Nat := [0, 1, 2, 6, 7, 8, 9, 10, 11, 12, 13, 14, 15, 16, 17, 18, 19, 34]
theorem go6 {ds : List V} {r : V} (hlen : Nat.ble ds.length Try.f6.ntmps = true) (hnd : nodupB (V.toks r) = true)
    (hW : Bd ⟨argTm 0 ds, ⟨[], [], 1000000, 0⟩⟩ → Code.W tys M N 0 [] Try.f6.ntmps keep6 (Try.f6.body.getD .skip) true [] (retQ tys Try.f6.results.toList r) ⟨argTm 0 ds, ⟨[], [], 1000000, 0⟩⟩) : Meets Try.prog gl 6 ds r :=
  meets_of mix tysOk (fun _ _ _ h => h) (fun _ _ _ h => h) Try.func6 (by decide) rfl keep6 1000000 hlen hnd hW
/-- omnibus/omnibuslaw15.CreditAll -/
abbrev keep7 : List Nat := [0, 2, 3, 4, 5, 6, 7, 8, 9, 10, 12, 13, 14, 15, 16, 17, 18, 30, 50]
theorem go7 {ds : List V} {r : V} (hlen : Nat.ble ds.length Try.f7.ntmps = true) (hnd : nodupB (V.toks r) = true)
    (hW : Bd ⟨argTm 0 ds, ⟨[], [], 1000000, 0⟩⟩ → Code.W tys M N 0 [] Try.f7.ntmps keep7 (Try.f7.body.getD .skip) true [] (retQ tys Try.f7.results.toList r) ⟨argTm 0 ds, ⟨[], [], 1000000, 0⟩⟩) : Meets Try.prog gl 7 ds r :=
  meets_of mix tysOk (fun _ _ _ h => h) (fun _ _ _ h => h) Try.func7 (by decide) rfl keep7 1000000 hlen hnd hW
/-- omnibus/omnibuslaw15.awake -/
abbrev keep8 : List Nat := [0, 1, 2, 3, 4, 6, 8, 9, 10, 11, 12, 14, 15, 17]
theorem go8 {ds : List V} {r : V} (hlen : Nat.ble ds.length Try.f8.ntmps = true) (hnd : nodupB (V.toks r) = true)
    (hW : Bd ⟨argTm 0 ds, ⟨[], [], 1000000, 0⟩⟩ → Code.W tys M N 0 [] Try.f8.ntmps keep8 (Try.f8.body.getD .skip) true [] (retQ tys Try.f8.results.toList r) ⟨argTm 0 ds, ⟨[], [], 1000000, 0⟩⟩) : Meets Try.prog gl 8 ds r :=
  meets_of mix tysOk (fun _ _ _ h => h) (fun _ _ _ h => h) Try.func8 (by decide) rfl keep8 1000000 hlen hnd hW
/-- omnibus/credit.New -/
abbrev keep9 : List Nat := [0, 2, 3, 4, 9]
theorem go9 {ds : List V} {r : V} (hlen : Nat.ble ds.length Try.f9.ntmps = true) (hnd : nodupB (V.toks r) = true)
    (hW : Bd ⟨argTm 0 ds, ⟨[], [], 1000000, 0⟩⟩ → Code.W tys M N 0 [] Try.f9.ntmps keep9 (Try.f9.body.getD .skip) true [] (retQ tys Try.f9.results.toList r) ⟨argTm 0 ds, ⟨[], [], 1000000, 0⟩⟩) : Meets Try.prog gl 9 ds r :=
  meets_of mix tysOk (fun _ _ _ h => h) (fun _ _ _ h => h) Try.func9 (by decide) rfl keep9 1000000 hlen hnd hW
/-- omnibus/omnibusref15.New -/
abbrev keep10 : List Nat := [0, 2, 3, 9]
theorem go10 {ds : List V} {r : V} (hlen : Nat.ble ds.length Try.f10.ntmps = true) (hnd : nodupB (V.toks r) = true)
    (hW : Bd ⟨argTm 0 ds, ⟨[], [], 1000000, 0⟩⟩ → Code.W tys M N 0 [] Try.f10.ntmps keep10 (Try.f10.body.getD .skip) true [] (retQ tys Try.f10.results.toList r) ⟨argTm 0 ds, ⟨[], [], 1000000, 0⟩⟩) : Meets Try.prog gl 10 ds r :=
  meets_of mix tysOk (fun _ _ _ h => h) (fun _ _ _ h => h) Try.func10 (by decide) rfl keep10 1000000 hlen hnd hW
/-- omnibus/omnibusref15.Same -/
abbrev keep11 : List Nat := [0, 1, 2, 3, 4, 5, 19, 24, 37]
theorem go11 {ds : List V} {r : V} (hlen : Nat.ble ds.length Try.f11.ntmps = true) (hnd : nodupB (V.toks r) = true)
    (hW : Bd ⟨argTm 0 ds, ⟨[], [], 1000000, 0⟩⟩ → Code.W tys M N 0 [] Try.f11.ntmps keep11 (Try.f11.body.getD .skip) true [] (retQ tys Try.f11.results.toList r) ⟨argTm 0 ds, ⟨[], [], 1000000, 0⟩⟩) : Meets Try.prog gl 11 ds r :=
  meets_of mix tysOk (fun _ _ _ h => h) (fun _ _ _ h => h) Try.func11 (by decide) rfl keep11 1000000 hlen hnd hW
/-- omnibus/omnibuslaw15.Credit -/
abbrev keep12 : List Nat := [0, 1, 4, 5, 7, 22]
theorem go12 {ds : List V} {r : V} (hlen : Nat.ble ds.length Try.f12.ntmps = true) (hnd : nodupB (V.toks r) = true)
    (hW : Bd ⟨argTm 0 ds, ⟨[], [], 1000000, 0⟩⟩ → Code.W tys M N 0 [] Try.f12.ntmps keep12 (Try.f12.body.getD .skip) true [] (retQ tys Try.f12.results.toList r) ⟨argTm 0 ds, ⟨[], [], 1000000, 0⟩⟩) : Meets Try.prog gl 12 ds r :=
  meets_of mix tysOk (fun _ _ _ h => h) (fun _ _ _ h => h) Try.func12 (by decide) rfl keep12 1000000 hlen hnd hW
/-- omnibus/omnibusref15.Own -/
abbrev keep13 : List Nat := [0, 1, 2]
theorem go13 {ds : List V} {r : V} (hlen : Nat.ble ds.length Try.f13.ntmps = true) (hnd : nodupB (V.toks r) = true)
    (hW : Bd ⟨argTm 0 ds, ⟨[], [], 1000000, 0⟩⟩ → Code.W tys M N 0 [] Try.f13.ntmps keep13 (Try.f13.body.getD .skip) true [] (retQ tys Try.f13.results.toList r) ⟨argTm 0 ds, ⟨[], [], 1000000, 0⟩⟩) : Meets Try.prog gl 13 ds r :=
  meets_of mix tysOk (fun _ _ _ h => h) (fun _ _ _ h => h) Try.func13 (by decide) rfl keep13 1000000 hlen hnd hW
/-- omnibus/omnibuslaw15.pick -/
abbrev keep14 : List Nat := [0, 1, 4, 6]
theorem go14 {ds : List V} {r : V} (hlen : Nat.ble ds.length Try.f14.ntmps = true) (hnd : nodupB (V.toks r) = true)
    (hW : Bd ⟨argTm 0 ds, ⟨[], [], 1000000, 0⟩⟩ → Code.W tys M N 0 [] Try.f14.ntmps keep14 (Try.f14.body.getD .skip) true [] (retQ tys Try.f14.results.toList r) ⟨argTm 0 ds, ⟨[], [], 1000000, 0⟩⟩) : Meets Try.prog gl 14 ds r :=
  meets_of mix tysOk (fun _ _ _ h => h) (fun _ _ _ h => h) Try.func14 (by decide) rfl keep14 1000000 hlen hnd hW
/-- omnibus/credit.Right -/
abbrev keep15 : List Nat := [0, 1, 2, 3, 4, 6, 7, 8, 9, 24]
theorem go15 {ds : List V} {r : V} (hlen : Nat.ble ds.length Try.f15.ntmps = true) (hnd : nodupB (V.toks r) = true)
    (hW : Bd ⟨argTm 0 ds, ⟨[], [], 1000000, 0⟩⟩ → Code.W tys M N 0 [] Try.f15.ntmps keep15 (Try.f15.body.getD .skip) true [] (retQ tys Try.f15.results.toList r) ⟨argTm 0 ds, ⟨[], [], 1000000, 0⟩⟩) : Meets Try.prog gl 15 ds r :=
  meets_of mix tysOk (fun _ _ _ h => h) (fun _ _ _ h => h) Try.func15 (by decide) rfl keep15 1000000 hlen hnd hW
/-- omnibus/omnibusref15.Right -/
abbrev keep16 : List Nat := [0, 1, 2, 3, 19, 24, 52]
theorem go16 {ds : List V} {r : V} (hlen : Nat.ble ds.length Try.f16.ntmps = true) (hnd : nodupB (V.toks r) = true)
    (hW : Bd ⟨argTm 0 ds, ⟨[], [], 1000000, 0⟩⟩ → Code.W tys M N 0 [] Try.f16.ntmps keep16 (Try.f16.body.getD .skip) true [] (retQ tys Try.f16.results.toList r) ⟨argTm 0 ds, ⟨[], [], 1000000, 0⟩⟩) : Meets Try.prog gl 16 ds r :=
  meets_of mix tysOk (fun _ _ _ h => h) (fun _ _ _ h => h) Try.func16 (by decide) rfl keep16 1000000 hlen hnd hW
/-- omnibus/credit.Left -/
abbrev keep17 : List Nat := [0, 1, 2, 5]
theorem go17 {ds : List V} {r : V} (hlen : Nat.ble ds.length Try.f17.ntmps = true) (hnd : nodupB (V.toks r) = true)
    (hW : Bd ⟨argTm 0 ds, ⟨[], [], 1000000, 0⟩⟩ → Code.W tys M N 0 [] Try.f17.ntmps keep17 (Try.f17.body.getD .skip) true [] (retQ tys Try.f17.results.toList r) ⟨argTm 0 ds, ⟨[], [], 1000000, 0⟩⟩) : Meets Try.prog gl 17 ds r :=
  meets_of mix tysOk (fun _ _ _ h => h) (fun _ _ _ h => h) Try.func17 (by decide) rfl keep17 1000000 hlen hnd hW
/-- omnibus/omnibusref15.Left -/
abbrev keep18 : List Nat := [0, 1, 2, 5]
theorem go18 {ds : List V} {r : V} (hlen : Nat.ble ds.length Try.f18.ntmps = true) (hnd : nodupB (V.toks r) = true)
    (hW : Bd ⟨argTm 0 ds, ⟨[], [], 1000000, 0⟩⟩ → Code.W tys M N 0 [] Try.f18.ntmps keep18 (Try.f18.body.getD .skip) true [] (retQ tys Try.f18.results.toList r) ⟨argTm 0 ds, ⟨[], [], 1000000, 0⟩⟩) : Meets Try.prog gl 18 ds r :=
  meets_of mix tysOk (fun _ _ _ h => h) (fun _ _ _ h => h) Try.func18 (by decide) rfl keep18 1000000 hlen hnd hW
/-- omnibus/credit.Take -/
abbrev keep19 : List Nat := [0, 1, 2, 4, 5, 6, 15, 22]
theorem go19 {ds : List V} {r : V} (hlen : Nat.ble ds.length Try.f19.ntmps = true) (hnd : nodupB (V.toks r) = true)
    (hW : Bd ⟨argTm 0 ds, ⟨[], [], 1000000, 0⟩⟩ → Code.W tys M N 0 [] Try.f19.ntmps keep19 (Try.f19.body.getD .skip) true [] (retQ tys Try.f19.results.toList r) ⟨argTm 0 ds, ⟨[], [], 1000000, 0⟩⟩) : Meets Try.prog gl 19 ds r :=
  meets_of mix tysOk (fun _ _ _ h => h) (fun _ _ _ h => h) Try.func19 (by decide) rfl keep19 1000000 hlen hnd hW
/-- omnibus/omnibusref15.Take -/
abbrev keep20 : List Nat := [0, 1, 2, 4, 5, 6, 9, 22, 28]
theorem go20 {ds : List V} {r : V} (hlen : Nat.ble ds.length Try.f20.ntmps = true) (hnd : nodupB (V.toks r) = true)
    (hW : Bd ⟨argTm 0 ds, ⟨[], [], 1000000, 0⟩⟩ → Code.W tys M N 0 [] Try.f20.ntmps keep20 (Try.f20.body.getD .skip) true [] (retQ tys Try.f20.results.toList r) ⟨argTm 0 ds, ⟨[], [], 1000000, 0⟩⟩) : Meets Try.prog gl 20 ds r :=
  meets_of mix tysOk (fun _ _ _ h => h) (fun _ _ _ h => h) Try.func20 (by decide) rfl keep20 1000000 hlen hnd hW
/-- omnibus/credit.Give -/
abbrev keep21 : List Nat := [0, 1, 2, 4, 5, 6, 7, 8, 11, 19, 20]
theorem go21 {ds : List V} {r : V} (hlen : Nat.ble ds.length Try.f21.ntmps = true) (hnd : nodupB (V.toks r) = true)
    (hW : Bd ⟨argTm 0 ds, ⟨[], [], 1000000, 0⟩⟩ → Code.W tys M N 0 [] Try.f21.ntmps keep21 (Try.f21.body.getD .skip) true [] (retQ tys Try.f21.results.toList r) ⟨argTm 0 ds, ⟨[], [], 1000000, 0⟩⟩) : Meets Try.prog gl 21 ds r :=
  meets_of mix tysOk (fun _ _ _ h => h) (fun _ _ _ h => h) Try.func21 (by decide) rfl keep21 1000000 hlen hnd hW
/-- omnibus/omnibusref15.Give -/
abbrev keep22 : List Nat := [0, 1, 2, 4, 5, 6, 7, 8, 11, 21, 31]
theorem go22 {ds : List V} {r : V} (hlen : Nat.ble ds.length Try.f22.ntmps = true) (hnd : nodupB (V.toks r) = true)
    (hW : Bd ⟨argTm 0 ds, ⟨[], [], 1000000, 0⟩⟩ → Code.W tys M N 0 [] Try.f22.ntmps keep22 (Try.f22.body.getD .skip) true [] (retQ tys Try.f22.results.toList r) ⟨argTm 0 ds, ⟨[], [], 1000000, 0⟩⟩) : Meets Try.prog gl 22 ds r :=
  meets_of mix tysOk (fun _ _ _ h => h) (fun _ _ _ h => h) Try.func22 (by decide) rfl keep22 1000000 hlen hnd hW
/-- omnibus/credit.Reset -/
abbrev keep23 : List Nat := [0, 1, 2, 3, 4, 7]
theorem go23 {ds : List V} {r : V} (hlen : Nat.ble ds.length Try.f23.ntmps = true) (hnd : nodupB (V.toks r) = true)
    (hW : Bd ⟨argTm 0 ds, ⟨[], [], 1000000, 0⟩⟩ → Code.W tys M N 0 [] Try.f23.ntmps keep23 (Try.f23.body.getD .skip) true [] (retQ tys Try.f23.results.toList r) ⟨argTm 0 ds, ⟨[], [], 1000000, 0⟩⟩) : Meets Try.prog gl 23 ds r :=
  meets_of mix tysOk (fun _ _ _ h => h) (fun _ _ _ h => h) Try.func23 (by decide) rfl keep23 1000000 hlen hnd hW
/-- omnibus/omnibusref15.Reset -/
abbrev keep24 : List Nat := [0, 1, 2, 3, 4, 7]
theorem go24 {ds : List V} {r : V} (hlen : Nat.ble ds.length Try.f24.ntmps = true) (hnd : nodupB (V.toks r) = true)
    (hW : Bd ⟨argTm 0 ds, ⟨[], [], 1000000, 0⟩⟩ → Code.W tys M N 0 [] Try.f24.ntmps keep24 (Try.f24.body.getD .skip) true [] (retQ tys Try.f24.results.toList r) ⟨argTm 0 ds, ⟨[], [], 1000000, 0⟩⟩) : Meets Try.prog gl 24 ds r :=
  meets_of mix tysOk (fun _ _ _ h => h) (fun _ _ _ h => h) Try.func24 (by decide) rfl keep24 1000000 hlen hnd hW
/-- omnibus/omnibusref03.Ints -/
abbrev keep25 : List Nat := [0, 1, 4, 5, 10, 14, 25]
theorem go25 {ds : List V} {r : V} (hlen : Nat.ble ds.length Try.f25.ntmps = true) (hnd : nodupB (V.toks r) = true)
    (hW : Bd ⟨argTm 0 ds, ⟨[], [], 1000000, 0⟩⟩ → Code.W tys M N 0 [] Try.f25.ntmps keep25 (Try.f25.body.getD .skip) true [] (retQ tys Try.f25.results.toList r) ⟨argTm 0 ds, ⟨[], [], 1000000, 0⟩⟩) : Meets Try.prog gl 25 ds r :=
  meets_of mix tysOk (fun _ _ _ h => h) (fun _ _ _ h => h) Try.func25 (by decide) rfl keep25 1000000 hlen hnd hW
/-- omnibus/credit.number -/
abbrev keep26 : List Nat := [0, 2]
theorem go26 {ds : List V} {r : V} (hlen : Nat.ble ds.length Try.f26.ntmps = true) (hnd : nodupB (V.toks r) = true)
    (hW : Bd ⟨argTm 0 ds, ⟨[], [], 1000000, 0⟩⟩ → Code.W tys M N 0 [] Try.f26.ntmps keep26 (Try.f26.body.getD .skip) true [] (retQ tys Try.f26.results.toList r) ⟨argTm 0 ds, ⟨[], [], 1000000, 0⟩⟩) : Meets Try.prog gl 26 ds r :=
  meets_of mix tysOk (fun _ _ _ h => h) (fun _ _ _ h => h) Try.func26 (by decide) rfl keep26 1000000 hlen hnd hW
/-- slices.Contains[[]int,int] -/
abbrev keep27 : List Nat := [0, 1, 4]
theorem go27 {ds : List V} {r : V} (hlen : Nat.ble ds.length Try.f27.ntmps = true) (hnd : nodupB (V.toks r) = true)
    (hW : Bd ⟨argTm 0 ds, ⟨[], [], 1000000, 0⟩⟩ → Code.W tys M N 0 [] Try.f27.ntmps keep27 (Try.f27.body.getD .skip) true [] (retQ tys Try.f27.results.toList r) ⟨argTm 0 ds, ⟨[], [], 1000000, 0⟩⟩) : Meets Try.prog gl 27 ds r :=
  meets_of mix tysOk (fun _ _ _ h => h) (fun _ _ _ h => h) Try.func27 (by decide) rfl keep27 1000000 hlen hnd hW
/-- omnibus/omnibusref15.in -/
abbrev keep28 : List Nat := [0, 1, 4, 5, 9, 17]
theorem go28 {ds : List V} {r : V} (hlen : Nat.ble ds.length Try.f28.ntmps = true) (hnd : nodupB (V.toks r) = true)
    (hW : Bd ⟨argTm 0 ds, ⟨[], [], 1000000, 0⟩⟩ → Code.W tys M N 0 [] Try.f28.ntmps keep28 (Try.f28.body.getD .skip) true [] (retQ tys Try.f28.results.toList r) ⟨argTm 0 ds, ⟨[], [], 1000000, 0⟩⟩) : Meets Try.prog gl 28 ds r :=
  meets_of mix tysOk (fun _ _ _ h => h) (fun _ _ _ h => h) Try.func28 (by decide) rfl keep28 1000000 hlen hnd hW
/-- omnibus/credit.own -/
abbrev keep29 : List Nat := [0, 1, 2]
theorem go29 {ds : List V} {r : V} (hlen : Nat.ble ds.length Try.f29.ntmps = true) (hnd : nodupB (V.toks r) = true)
    (hW : Bd ⟨argTm 0 ds, ⟨[], [], 1000000, 0⟩⟩ → Code.W tys M N 0 [] Try.f29.ntmps keep29 (Try.f29.body.getD .skip) true [] (retQ tys Try.f29.results.toList r) ⟨argTm 0 ds, ⟨[], [], 1000000, 0⟩⟩) : Meets Try.prog gl 29 ds r :=
  meets_of mix tysOk (fun _ _ _ h => h) (fun _ _ _ h => h) Try.func29 (by decide) rfl keep29 1000000 hlen hnd hW
/-- omnibus/credit.kept -/
abbrev keep30 : List Nat := [0, 1, 2, 3, 4]
theorem go30 {ds : List V} {r : V} (hlen : Nat.ble ds.length Try.f30.ntmps = true) (hnd : nodupB (V.toks r) = true)
    (hW : Bd ⟨argTm 0 ds, ⟨[], [], 1000000, 0⟩⟩ → Code.W tys M N 0 [] Try.f30.ntmps keep30 (Try.f30.body.getD .skip) true [] (retQ tys Try.f30.results.toList r) ⟨argTm 0 ds, ⟨[], [], 1000000, 0⟩⟩) : Meets Try.prog gl 30 ds r :=
  meets_of mix tysOk (fun _ _ _ h => h) (fun _ _ _ h => h) Try.func30 (by decide) rfl keep30 1000000 hlen hnd hW
/-- slices.Clone[[]int,int] -/
abbrev keep31 : List Nat := [0, 2, 4]
theorem go31 {ds : List V} {r : V} (hlen : Nat.ble ds.length Try.f31.ntmps = true) (hnd : nodupB (V.toks r) = true)
    (hW : Bd ⟨argTm 0 ds, ⟨[], [], 1000000, 0⟩⟩ → Code.W tys M N 0 [] Try.f31.ntmps keep31 (Try.f31.body.getD .skip) true [] (retQ tys Try.f31.results.toList r) ⟨argTm 0 ds, ⟨[], [], 1000000, 0⟩⟩) : Meets Try.prog gl 31 ds r :=
  meets_of mix tysOk (fun _ _ _ h => h) (fun _ _ _ h => h) Try.func31 (by decide) rfl keep31 1000000 hlen hnd hW
/-- slices.Index[[]int,int] -/
abbrev keep32 : List Nat := [0, 1, 4, 5, 7, 8, 9, 16]
theorem go32 {ds : List V} {r : V} (hlen : Nat.ble ds.length Try.f32.ntmps = true) (hnd : nodupB (V.toks r) = true)
    (hW : Bd ⟨argTm 0 ds, ⟨[], [], 1000000, 0⟩⟩ → Code.W tys M N 0 [] Try.f32.ntmps keep32 (Try.f32.body.getD .skip) true [] (retQ tys Try.f32.results.toList r) ⟨argTm 0 ds, ⟨[], [], 1000000, 0⟩⟩) : Meets Try.prog gl 32 ds r :=
  meets_of mix tysOk (fun _ _ _ h => h) (fun _ _ _ h => h) Try.func32 (by decide) rfl keep32 1000000 hlen hnd hW
/-- omnibus/credit.kept$1 -/
abbrev keep33 : List Nat := [0, 1, 2, 5, 7, 8, 9, 10, 22]
theorem go33 {ds : List V} {r : V} (hlen : Nat.ble ds.length Try.f33.ntmps = true) (hnd : nodupB (V.toks r) = true)
    (hW : Bd ⟨argTm 0 ds, ⟨[], [], 1000000, 0⟩⟩ → Code.W tys M N 0 [] Try.f33.ntmps keep33 (Try.f33.body.getD .skip) true [] (retQ tys Try.f33.results.toList r) ⟨argTm 0 ds, ⟨[], [], 1000000, 0⟩⟩) : Meets Try.prog gl 33 ds r :=
  meets_of mix tysOk (fun _ _ _ h => h) (fun _ _ _ h => h) Try.func33 (by decide) rfl keep33 1000000 hlen hnd hW
theorem it33 {caps : List V} {zs : List (List D)} (hlen : Nat.ble (caps.length + 1) Try.f33.ntmps = true)
    (hW : ∀ l, Bd ⟨argTm 0 (.fn (.yield l) [] [] :: caps), ⟨[], [], 1000000, 1⟩⟩ → Code.W tys M N l zs Try.f33.ntmps keep33 (Try.f33.body.getD .skip) false [] (itQ zs.length) ⟨argTm 0 (.fn (.yield l) [] [] :: caps), ⟨[], [], 1000000, 1⟩⟩) : Iter Try.prog gl 33 caps zs :=
  iter_of mix tysOk (fun _ _ _ h => h) (fun _ _ _ h => h) Try.func33 (by decide) rfl rfl keep33 1000000 hlen hW
end Go.Proofs.Ytdaigbpaggnijaa
