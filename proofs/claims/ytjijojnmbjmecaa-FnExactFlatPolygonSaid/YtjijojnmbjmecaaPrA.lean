/-
  Each function of the program does what its plain function says, part 1. No condition.
-/
import Derived.Test.YtjijojnmbjmecaaMs
import Derived.Shelf.SlSortCmp.WholeK
import Derived.Ground.SlsfProg
import Derived.Test.YtjijojnmbjmecaaProg
set_option linter.unusedVariables false
set_option linter.constructorNameAsVariable false
namespace Go.Proofs
open Go.Shelf
def Try.sort85_ren : Go.Shelf.Ren := ⟨fun | 6 => 85 | 15 => 89 | 14 => 88 | 28 => 100 | 29 => 101 | 20 => 92 | 21 => 93 | 22 => 94 | 23 => 95 | 24 => 96 | 25 => 97 | 26 => 98 | 27 => 99 | 46 => 103 | 47 => 104 | 48 => 105 | 49 => 106 | 50 => 107 | 57 => 108 | n => n, fun | 22 => 27 | 24 => 45 | 25 => 85 | 3 => 3 | 39 => 94 | 0 => 0 | 53 => 105 | 55 => 107 | 4 => 4 | 46 => 98 | 45 => 97 | 50 => 102 | 5 => 5 | 9 => 9 | 66 => 109 | 70 => 113 | 76 => 115 | 77 => 71 | n => n, fun | n => n⟩
theorem Try.sort85 : Go.Proofs.SlLaysF0.n6 Try.prog Try.sort85_ren := {
  mixed := by kernel_rfl
  f6 := ⟨Try.f85.name, by decide, Try.func85.trans (congrArg some (by kernel_rfl))⟩
  f14 := ⟨Try.f88.name, by decide, Try.func88.trans (congrArg some (by kernel_rfl))⟩
  f15 := Try.func89.trans (congrArg some (by kernel_rfl))
  f20 := ⟨Try.f92.name, by decide, Try.func92.trans (congrArg some (by kernel_rfl))⟩
  f21 := ⟨Try.f93.name, by decide, Try.func93.trans (congrArg some (by kernel_rfl))⟩
  f22 := ⟨Try.f94.name, by decide, Try.func94.trans (congrArg some (by kernel_rfl))⟩
  f23 := ⟨Try.f95.name, by decide, Try.func95.trans (congrArg some (by kernel_rfl))⟩
  f24 := ⟨Try.f96.name, by decide, Try.func96.trans (congrArg some (by kernel_rfl))⟩
  f25 := ⟨Try.f97.name, by decide, Try.func97.trans (congrArg some (by kernel_rfl))⟩
  f26 := ⟨Try.f98.name, by decide, Try.func98.trans (congrArg some (by kernel_rfl))⟩
  f27 := ⟨Try.f99.name, by decide, Try.func99.trans (congrArg some (by kernel_rfl))⟩
  f28 := Try.func100.trans (congrArg some (by kernel_rfl))
  f29 := Try.func101.trans (congrArg some (by kernel_rfl))
  f46 := ⟨Try.f103.name, by decide, Try.func103.trans (congrArg some (by kernel_rfl))⟩
  f47 := Try.func104.trans (congrArg some (by kernel_rfl))
  f48 := Try.func105.trans (congrArg some (by kernel_rfl))
  f49 := ⟨Try.f106.name, by decide, Try.func106.trans (congrArg some (by kernel_rfl))⟩
  f50 := ⟨Try.f107.name, by decide, Try.func107.trans (congrArg some (by kernel_rfl))⟩
  f57 := ⟨Try.f108.name, by decide, Try.func108.trans (congrArg some (by kernel_rfl))⟩
  t0 := Try.underlying0
  a0 := Try.isAgg0
  z0 := Try.sizeOf0
  v0 := Try.zeroValue0
  t3 := Try.underlying3
  a3 := Try.isAgg3
  z3 := Try.sizeOf3
  v3 := Try.zeroValue3
  t4 := Try.underlying4
  a4 := Try.isAgg4
  z4 := Try.sizeOf4
  v4 := Try.zeroValue4
  t5 := Try.underlying5
  a5 := Try.isAgg5
  z5 := Try.sizeOf5
  v5 := Try.zeroValue5
  t9 := Try.underlying9
  a9 := Try.isAgg9
  z9 := Try.sizeOf9
  v9 := Try.zeroValue9
  t22 := Try.underlying27
  a22 := Try.isAgg27
  z22 := Try.sizeOf27
  v22 := Try.zeroValue27
  t25 := Try.underlying85
  a25 := Try.isAgg85
  z25 := Try.sizeOf85
  v25 := Try.zeroValue85
  t39 := Try.underlying94
  a39 := Try.isAgg94
  z39 := Try.sizeOf94
  v39 := Try.zeroValue94
  t45 := Try.underlying97
  a45 := Try.isAgg97
  z45 := Try.sizeOf97
  v45 := Try.zeroValue97
  t46 := Try.underlying98
  a46 := Try.isAgg98
  z46 := Try.sizeOf98
  v46 := Try.zeroValue98
  t50 := Try.underlying102
  a50 := Try.isAgg102
  z50 := Try.sizeOf102
  v50 := Try.zeroValue102
  t53 := Try.underlying105
  a53 := Try.isAgg105
  z53 := Try.sizeOf105
  v53 := Try.zeroValue105
  t55 := Try.underlying107
  a55 := Try.isAgg107
  z55 := Try.sizeOf107
  v55 := Try.zeroValue107
  t66 := Try.underlying109
  a66 := Try.isAgg109
  z66 := Try.sizeOf109
  v66 := Try.zeroValue109
  t70 := Try.underlying113
  a70 := Try.isAgg113
  z70 := Try.sizeOf113
  v70 := Try.zeroValue113
  t76 := Try.underlying115
  a76 := Try.isAgg115
  z76 := Try.sizeOf115
  v76 := Try.zeroValue115
  t77 := Try.underlying71
  a77 := Try.isAgg71
  z77 := Try.sizeOf71
  v77 := Try.zeroValue71 }
end Go.Proofs

namespace Go.Proofs.Ga
open Go.VI
def τ0 : List (TypeId × TI) := [
 (3, { kind := .int .i64, sz := 1, ty := .i .i64, agg := false, bytes := 8 }),
 (4, { kind := .bool, sz := 1, ty := .b, agg := false, bytes := 1 }),
 (22, { kind := .slice 47, sz := 1, ty := .l (.p (.i .i64) (.i .i64)), agg := false, bytes := 24 }),
 (24, { kind := .slice 50, sz := 1, ty := .l (.l (.i .i64)), agg := false, bytes := 24 }),
 (27, { kind := .slice 45, sz := 1, ty := .l (.p (.i .i64) (.i .i64)), agg := false, bytes := 24 }),
 (35, { kind := .struct [(0, 3), (1, 3), (2, 3), (3, 3), (4, 3), (5, 3)], sz := 6, ty := .p (.i .i64) (.p (.i .i64) (.p (.i .i64) (.p (.i .i64) (.p (.i .i64) (.i .i64))))), agg := true, bytes := 48 }),
 (45, { kind := .struct [(0, 3), (1, 3)], sz := 2, ty := .p (.i .i64) (.i .i64), agg := true, bytes := 16 }),
 (47, { kind := .struct [(0, 3), (1, 3)], sz := 2, ty := .p (.i .i64) (.i .i64), agg := true, bytes := 16 }),
 (50, { kind := .slice 3, sz := 1, ty := .l (.i .i64), agg := false, bytes := 24 })]
def stOf (hints : List (Nat × Nat × Nat)) (modes : List (FuncId × List Nat)) (n : Nat) : Sta := { τ := τ0, hints := hints, modes := modes, eqs := [(45, 2)], n := n }
theorem st_ok (hints : List (Nat × Nat × Nat)) (modes : List (FuncId × List Nat)) (n : Nat) : StOk Try.prog (stOf hints modes n) := stB_ok (by kernel_rfl)

end Go.Proofs.Ga

namespace Go.Proofs.Ga
open Go.VI
abbrev st_laws_szPegS : Sta := stOf [] [] 12
noncomputable def fns_laws_szPegS {ρ : Type} : List (FnCl ρ) := []
theorem fs_laws_szPegS {ρ : Type} : ∀ c ∈ fns_laws_szPegS (ρ := ρ), FnSound Try.prog c := fs_nil
noncomputable def lp_laws_szPegS_0 {ρ : Type} : List (LpEnt ρ) := []
theorem ls_laws_szPegS_0 {ρ : Type} : LpEnts Try.prog st_laws_szPegS (lp_laws_szPegS_0 (ρ := ρ)) := fun _ h => nomatch h
noncomputable def C_laws_szPegS {ρ : Type} : FnCl ρ := fnC 6 (lCons (cSl 0 (.p (.i .i64) (.i .i64))) (lOne (cInt .i64))) lNil (fun (e : Int) => (((.int .i64 e) : PV), ([] : List PV))) (fun a o K => laws_szPegS a.1 a.2 (fun r0 => K r0))
theorem S_laws_szPegS {ρ : Type} : FnSound Try.prog (C_laws_szPegS (ρ := ρ)) := fn_sound (st_ok _ _ _) fs_laws_szPegS ls_laws_szPegS_0 (by kernel_rfl) (fn := Try.f6) (by kernel_rfl) (by kernel_rfl) (has_of (by kernel_rfl) has_nil) _ _ _ _ (fun a => by kernel_rfl) (fun a o K => by kernel_rfl)
abbrev st_laws_toPeg : Sta := stOf [] [] 11
noncomputable def fns_laws_toPeg {ρ : Type} : List (FnCl ρ) := []
theorem fs_laws_toPeg {ρ : Type} : ∀ c ∈ fns_laws_toPeg (ρ := ρ), FnSound Try.prog c := fs_nil
noncomputable def lp_laws_toPeg_0 {ρ : Type} : List (LpEnt ρ) := []
theorem ls_laws_toPeg_0 {ρ : Type} : LpEnts Try.prog st_laws_toPeg (lp_laws_toPeg_0 (ρ := ρ)) := fun _ h => nomatch h
noncomputable def C_laws_toPeg {ρ : Type} : FnCl ρ := fnC 23 (lOne (cAgg (lCons (cInt .i64) (lOne (cInt .i64))))) lNil (fun (e : Int × Int) => (((.agg [(.int .i64 e.1), (.int .i64 e.2)]) : PV), ([] : List PV))) (fun a o K => laws_toPeg a (fun r0 => K r0))
theorem S_laws_toPeg {ρ : Type} : FnSound Try.prog (C_laws_toPeg (ρ := ρ)) := fn_sound (st_ok _ _ _) fs_laws_toPeg ls_laws_toPeg_0 (by kernel_rfl) (fn := Try.f23) (by kernel_rfl) (by kernel_rfl) (has_of (by kernel_rfl) has_nil) _ _ _ _ (fun a => by kernel_rfl) (fun a o K => by kernel_rfl)
abbrev st_laws_toPegS : Sta := stOf [(6, 0, 1)] [] 23
noncomputable def fns_laws_toPegS {ρ : Type} : List (FnCl ρ) := [C_laws_toPeg]
theorem fs_laws_toPegS {ρ : Type} : ∀ c ∈ fns_laws_toPegS (ρ := ρ), FnSound Try.prog c := (fs_cons S_laws_toPeg fs_nil)
noncomputable def lp_laws_toPegS_0 {ρ : Type} : List (LpEnt ρ) := []
theorem ls_laws_toPegS_0 {ρ : Type} : LpEnts Try.prog st_laws_toPegS (lp_laws_toPegS_0 (ρ := ρ)) := fun _ h => nomatch h
noncomputable def B_laws_toPegS_3 : Code := (loopsOf (bodyOf Try.f8)).getD 0 .skip
def ci_laws_toPegS_3 : CodS ((List (Int × Int)) × (List (Int × Int)) × Int) := ⟨[0, 6, 8], (lCons (cSl 0 (.p (.i .i64) (.i .i64))) (lCons (cSl 1 (.p (.i .i64) (.i .i64))) (lOne (cInt .i64))))⟩
def xe_laws_toPegS_3 {ρ : Type} (K : X → St → Option ρ) : (List (Int × Int)) → Option ρ := (fun x => K (.exit 0) (Go.VI.mk [(6, (.sl 1 (.p (.i .i64) (.i .i64)) x))]))
noncomputable def lp_laws_toPegS_1 {ρ : Type} : List (LpEnt ρ) := ⟨3, B_laws_toPegS_3, lpC ci_laws_toPegS_3 xe_laws_toPegS_3 (fun v kn ke => laws_toPegS_R3 v.1 v.2.1 v.2.2 (fun a0 a1 a2 => kn (a0, a1, a2)) (fun a0 => ke a0))⟩ :: lp_laws_toPegS_0
theorem ls_laws_toPegS_1 {ρ : Type} : LpEnts Try.prog st_laws_toPegS (lp_laws_toPegS_1 (ρ := ρ)) := loop_more (st_ok _ _ _) fs_laws_toPegS ls_laws_toPegS_0 (by kernel_rfl) (has_of (by kernel_rfl) has_nil) ci_laws_toPegS_3 [6] xe_laws_toPegS_3 (fun v kn ke => laws_toPegS_R3 v.1 v.2.1 v.2.2 (fun a0 a1 a2 => kn (a0, a1, a2)) (fun a0 => ke a0)) (fun v => by kernel_rfl) (fun v KN KE => by kernel_rfl) 3
noncomputable def C_laws_toPegS {ρ : Type} : FnCl ρ := fnC 8 (lOne (cSl 0 (.p (.i .i64) (.i .i64)))) lNil (fun (e : List (Int × Int)) => (((.sl 1 (.p (.i .i64) (.i .i64)) e) : PV), ([] : List PV))) (fun a o K => laws_toPegS a (fun r0 => K r0))
theorem S_laws_toPegS {ρ : Type} : FnSound Try.prog (C_laws_toPegS (ρ := ρ)) := fn_sound (st_ok _ _ _) fs_laws_toPegS ls_laws_toPegS_1 (by kernel_rfl) (fn := Try.f8) (by kernel_rfl) (by kernel_rfl) (has_of (by kernel_rfl) (has_cons (c := B_laws_toPegS_3) 0 (by kernel_rfl) has_nil)) _ _ _ _ (fun a => by kernel_rfl) (fun a o K => by kernel_rfl)
abbrev st_spec_l1In : Sta := stOf [] [] 15
noncomputable def fns_spec_l1In {ρ : Type} : List (FnCl ρ) := []
theorem fs_spec_l1In {ρ : Type} : ∀ c ∈ fns_spec_l1In (ρ := ρ), FnSound Try.prog c := fs_nil
noncomputable def lp_spec_l1In_0 {ρ : Type} : List (LpEnt ρ) := []
theorem ls_spec_l1In_0 {ρ : Type} : LpEnts Try.prog st_spec_l1In (lp_spec_l1In_0 (ρ := ρ)) := fun _ h => nomatch h
noncomputable def C_spec_l1In {ρ : Type} : FnCl ρ := fnC 37 (lCons (cInt .i64) (lCons (cInt .i64) (lOne (cInt .i64)))) lNil (fun (e : Bool) => (((.bool e) : PV), ([] : List PV))) (fun a o K => spec_l1In a.1 a.2.1 a.2.2 (fun r0 => K r0))
theorem S_spec_l1In {ρ : Type} : FnSound Try.prog (C_spec_l1In (ρ := ρ)) := fn_sound (st_ok _ _ _) fs_spec_l1In ls_spec_l1In_0 (by kernel_rfl) (fn := Try.f37) (by kernel_rfl) (by kernel_rfl) (has_of (by kernel_rfl) has_nil) _ _ _ _ (fun a => by kernel_rfl) (fun a o K => by kernel_rfl)
abbrev st_spec_pgIs : Sta := stOf [] [] 11
noncomputable def fns_spec_pgIs {ρ : Type} : List (FnCl ρ) := [C_spec_l1In]
theorem fs_spec_pgIs {ρ : Type} : ∀ c ∈ fns_spec_pgIs (ρ := ρ), FnSound Try.prog c := (fs_cons S_spec_l1In fs_nil)
noncomputable def lp_spec_pgIs_0 {ρ : Type} : List (LpEnt ρ) := []
theorem ls_spec_pgIs_0 {ρ : Type} : LpEnts Try.prog st_spec_pgIs (lp_spec_pgIs_0 (ρ := ρ)) := fun _ h => nomatch h
noncomputable def C_spec_pgIs {ρ : Type} : FnCl ρ := fnC 38 (lOne (cAgg (lCons (cInt .i64) (lOne (cInt .i64))))) lNil (fun (e : Bool) => (((.bool e) : PV), ([] : List PV))) (fun a o K => spec_pgIs a (fun r0 => K r0))
theorem S_spec_pgIs {ρ : Type} : FnSound Try.prog (C_spec_pgIs (ρ := ρ)) := fn_sound (st_ok _ _ _) fs_spec_pgIs ls_spec_pgIs_0 (by kernel_rfl) (fn := Try.f38) (by kernel_rfl) (by kernel_rfl) (has_of (by kernel_rfl) has_nil) _ _ _ _ (fun a => by kernel_rfl) (fun a o K => by kernel_rfl)
abbrev st_spec_pgTurn : Sta := stOf [] [] 30
noncomputable def fns_spec_pgTurn {ρ : Type} : List (FnCl ρ) := []
theorem fs_spec_pgTurn {ρ : Type} : ∀ c ∈ fns_spec_pgTurn (ρ := ρ), FnSound Try.prog c := fs_nil
noncomputable def lp_spec_pgTurn_0 {ρ : Type} : List (LpEnt ρ) := []
theorem ls_spec_pgTurn_0 {ρ : Type} : LpEnts Try.prog st_spec_pgTurn (lp_spec_pgTurn_0 (ρ := ρ)) := fun _ h => nomatch h
noncomputable def C_spec_pgTurn {ρ : Type} : FnCl ρ := fnC 39 (lCons (cAgg (lCons (cInt .i64) (lOne (cInt .i64)))) (lCons (cAgg (lCons (cInt .i64) (lOne (cInt .i64)))) (lOne (cAgg (lCons (cInt .i64) (lOne (cInt .i64))))))) lNil (fun (e : Int) => (((.int .i64 e) : PV), ([] : List PV))) (fun a o K => spec_pgTurn a.1 a.2.1 a.2.2 (fun r0 => K r0))
theorem S_spec_pgTurn {ρ : Type} : FnSound Try.prog (C_spec_pgTurn (ρ := ρ)) := fn_sound (st_ok _ _ _) fs_spec_pgTurn ls_spec_pgTurn_0 (by kernel_rfl) (fn := Try.f39) (by kernel_rfl) (by kernel_rfl) (has_of (by kernel_rfl) has_nil) _ _ _ _ (fun a => by kernel_rfl) (fun a o K => by kernel_rfl)
abbrev st_spec_pgOn : Sta := stOf [] [] 40
noncomputable def fns_spec_pgOn {ρ : Type} : List (FnCl ρ) := [C_spec_pgTurn]
theorem fs_spec_pgOn {ρ : Type} : ∀ c ∈ fns_spec_pgOn (ρ := ρ), FnSound Try.prog c := (fs_cons S_spec_pgTurn fs_nil)
noncomputable def lp_spec_pgOn_0 {ρ : Type} : List (LpEnt ρ) := []
theorem ls_spec_pgOn_0 {ρ : Type} : LpEnts Try.prog st_spec_pgOn (lp_spec_pgOn_0 (ρ := ρ)) := fun _ h => nomatch h
noncomputable def C_spec_pgOn {ρ : Type} : FnCl ρ := fnC 62 (lCons (cAgg (lCons (cInt .i64) (lOne (cInt .i64)))) (lCons (cAgg (lCons (cInt .i64) (lOne (cInt .i64)))) (lOne (cAgg (lCons (cInt .i64) (lOne (cInt .i64))))))) lNil (fun (e : Bool) => (((.bool e) : PV), ([] : List PV))) (fun a o K => spec_pgOn a.1 a.2.1 a.2.2 (fun r0 => K r0))
theorem S_spec_pgOn {ρ : Type} : FnSound Try.prog (C_spec_pgOn (ρ := ρ)) := fn_sound (st_ok _ _ _) fs_spec_pgOn ls_spec_pgOn_0 (by kernel_rfl) (fn := Try.f62) (by kernel_rfl) (by kernel_rfl) (has_of (by kernel_rfl) has_nil) _ _ _ _ (fun a => by kernel_rfl) (fun a o K => by kernel_rfl)
abbrev st_spec_l1Sign : Sta := stOf [] [] 9
noncomputable def fns_spec_l1Sign {ρ : Type} : List (FnCl ρ) := []
theorem fs_spec_l1Sign {ρ : Type} : ∀ c ∈ fns_spec_l1Sign (ρ := ρ), FnSound Try.prog c := fs_nil
noncomputable def lp_spec_l1Sign_0 {ρ : Type} : List (LpEnt ρ) := []
theorem ls_spec_l1Sign_0 {ρ : Type} : LpEnts Try.prog st_spec_l1Sign (lp_spec_l1Sign_0 (ρ := ρ)) := fun _ h => nomatch h
noncomputable def C_spec_l1Sign {ρ : Type} : FnCl ρ := fnC 63 (lOne (cInt .i64)) lNil (fun (e : Int) => (((.int .i64 e) : PV), ([] : List PV))) (fun a o K => spec_l1Sign a (fun r0 => K r0))
theorem S_spec_l1Sign {ρ : Type} : FnSound Try.prog (C_spec_l1Sign (ρ := ρ)) := fn_sound (st_ok _ _ _) fs_spec_l1Sign ls_spec_l1Sign_0 (by kernel_rfl) (fn := Try.f63) (by kernel_rfl) (by kernel_rfl) (has_of (by kernel_rfl) has_nil) _ _ _ _ (fun a => by kernel_rfl) (fun a o K => by kernel_rfl)
abbrev st_spec_pgMeet : Sta := stOf [] [] 57
noncomputable def fns_spec_pgMeet {ρ : Type} : List (FnCl ρ) := [C_spec_pgOn, C_spec_pgTurn, C_spec_l1Sign]
theorem fs_spec_pgMeet {ρ : Type} : ∀ c ∈ fns_spec_pgMeet (ρ := ρ), FnSound Try.prog c := (fs_cons S_spec_pgOn (fs_cons S_spec_pgTurn (fs_cons S_spec_l1Sign fs_nil)))
noncomputable def lp_spec_pgMeet_0 {ρ : Type} : List (LpEnt ρ) := []
theorem ls_spec_pgMeet_0 {ρ : Type} : LpEnts Try.prog st_spec_pgMeet (lp_spec_pgMeet_0 (ρ := ρ)) := fun _ h => nomatch h
noncomputable def C_spec_pgMeet {ρ : Type} : FnCl ρ := fnC 40 (lCons (cAgg (lCons (cInt .i64) (lOne (cInt .i64)))) (lCons (cAgg (lCons (cInt .i64) (lOne (cInt .i64)))) (lCons (cAgg (lCons (cInt .i64) (lOne (cInt .i64)))) (lOne (cAgg (lCons (cInt .i64) (lOne (cInt .i64)))))))) lNil (fun (e : Bool) => (((.bool e) : PV), ([] : List PV))) (fun a o K => spec_pgMeet a.1 a.2.1 a.2.2.1 a.2.2.2 (fun r0 => K r0))
theorem S_spec_pgMeet {ρ : Type} : FnSound Try.prog (C_spec_pgMeet (ρ := ρ)) := fn_sound (st_ok _ _ _) fs_spec_pgMeet ls_spec_pgMeet_0 (by kernel_rfl) (fn := Try.f40) (by kernel_rfl) (by kernel_rfl) (has_of (by kernel_rfl) has_nil) _ _ _ _ (fun a => by kernel_rfl) (fun a o K => by kernel_rfl)
abbrev st_spec_pgGood : Sta := stOf [] [] 95
noncomputable def fns_spec_pgGood {ρ : Type} : List (FnCl ρ) := [C_spec_l1In, C_spec_pgIs, C_spec_pgTurn, C_spec_pgMeet]
theorem fs_spec_pgGood {ρ : Type} : ∀ c ∈ fns_spec_pgGood (ρ := ρ), FnSound Try.prog c := (fs_cons S_spec_l1In (fs_cons S_spec_pgIs (fs_cons S_spec_pgTurn (fs_cons S_spec_pgMeet fs_nil))))
noncomputable def lp_spec_pgGood_0 {ρ : Type} : List (LpEnt ρ) := []
theorem ls_spec_pgGood_0 {ρ : Type} : LpEnts Try.prog st_spec_pgGood (lp_spec_pgGood_0 (ρ := ρ)) := fun _ h => nomatch h
noncomputable def B_spec_pgGood_5 : Code := (loopsOf (bodyOf Try.f21)).getD 0 .skip
noncomputable def B_spec_pgGood_10 : Code := (loopsOf B_spec_pgGood_5).getD 0 .skip
noncomputable def B_spec_pgGood_17 : Code := (loopsOf (bodyOf Try.f21)).getD 1 .skip
noncomputable def B_spec_pgGood_23 : Code := (loopsOf B_spec_pgGood_17).getD 0 .skip
def ci_spec_pgGood_10 : CodS ((List (Int × Int)) × Int × (Int × Int) × (List (Int × Int)) × Int × Int × (List (Int × Int)) × Int × Int) := ⟨[0, 6, 10, 34, 36, 38, 58, 60, 62], (lCons (cSl 0 (.p (.i .i64) (.i .i64))) (lCons (cInt .i64) (lCons (cBox (lCons (cInt .i64) (lOne (cInt .i64)))) (lCons (cSl 0 (.p (.i .i64) (.i .i64))) (lCons (cInt .i64) (lCons (cInt .i64) (lCons (cSl 0 (.p (.i .i64) (.i .i64))) (lCons (cInt .i64) (lOne (cInt .i64))))))))))⟩
def xe_spec_pgGood_10 {ρ : Type} (K : X → St → Option ρ) : (((List (Int × Int)) × Bool × Int × (List (Int × Int)) × Int × Int) ⊕ ((List (Int × Int)) × Int × (List (Int × Int)) × Int × Int)) → Option ρ := (Sum.elim (fun x => K .ret (Go.VI.mk [(0, (.sl 0 (.p (.i .i64) (.i .i64)) x.1)), (4, (.bool x.2.1)), (6, (.int .i64 x.2.2.1)), (34, (.sl 0 (.p (.i .i64) (.i .i64)) x.2.2.2.1)), (36, (.int .i64 x.2.2.2.2.1)), (38, (.int .i64 x.2.2.2.2.2))])) (fun x => K (.exit 2) (Go.VI.mk [(0, (.sl 0 (.p (.i .i64) (.i .i64)) x.1)), (4, .undef), (6, (.int .i64 x.2.1)), (34, (.sl 0 (.p (.i .i64) (.i .i64)) x.2.2.1)), (36, (.int .i64 x.2.2.2.1)), (38, (.int .i64 x.2.2.2.2))])))
noncomputable def lp_spec_pgGood_1 {ρ : Type} : List (LpEnt ρ) := ⟨10, B_spec_pgGood_10, lpC ci_spec_pgGood_10 xe_spec_pgGood_10 (fun v kn ke => spec_pgGood_R10 v.1 v.2.1 v.2.2.1 v.2.2.2.1 v.2.2.2.2.1 v.2.2.2.2.2.1 v.2.2.2.2.2.2.1 v.2.2.2.2.2.2.2.1 v.2.2.2.2.2.2.2.2 (fun a0 a1 a2 a3 a4 a5 a6 a7 a8 => kn (a0, a1, a2, a3, a4, a5, a6, a7, a8)) (fun a0 a1 a2 a3 a4 a5 => ke (.inl (a0, a1, a2, a3, a4, a5))) (fun a0 a1 a2 a3 a4 => ke (.inr (a0, a1, a2, a3, a4))))⟩ :: lp_spec_pgGood_0
theorem ls_spec_pgGood_1 {ρ : Type} : LpEnts Try.prog st_spec_pgGood (lp_spec_pgGood_1 (ρ := ρ)) := loop_more (st_ok _ _ _) fs_spec_pgGood ls_spec_pgGood_0 (by kernel_rfl) (has_of (by kernel_rfl) has_nil) ci_spec_pgGood_10 [0, 4, 6, 34, 36, 38] xe_spec_pgGood_10 (fun v kn ke => spec_pgGood_R10 v.1 v.2.1 v.2.2.1 v.2.2.2.1 v.2.2.2.2.1 v.2.2.2.2.2.1 v.2.2.2.2.2.2.1 v.2.2.2.2.2.2.2.1 v.2.2.2.2.2.2.2.2 (fun a0 a1 a2 a3 a4 a5 a6 a7 a8 => kn (a0, a1, a2, a3, a4, a5, a6, a7, a8)) (fun a0 a1 a2 a3 a4 a5 => ke (.inl (a0, a1, a2, a3, a4, a5))) (fun a0 a1 a2 a3 a4 => ke (.inr (a0, a1, a2, a3, a4)))) (fun v => by kernel_rfl) (fun v KN KE => by kernel_rfl) 10
def ci_spec_pgGood_5 : CodS ((List (Int × Int)) × Int × (List (Int × Int)) × Int × Int) := ⟨[0, 6, 34, 36, 38], (lCons (cSl 0 (.p (.i .i64) (.i .i64))) (lCons (cInt .i64) (lCons (cSl 0 (.p (.i .i64) (.i .i64))) (lCons (cInt .i64) (lOne (cInt .i64))))))⟩
def xe_spec_pgGood_5 {ρ : Type} (K : X → St → Option ρ) : (((List (Int × Int)) × Bool × Int) ⊕ ((List (Int × Int)) × Int)) → Option ρ := (Sum.elim (fun x => K .ret (Go.VI.mk [(0, (.sl 0 (.p (.i .i64) (.i .i64)) x.1)), (4, (.bool x.2.1)), (6, (.int .i64 x.2.2))])) (fun x => K (.exit 0) (Go.VI.mk [(0, (.sl 0 (.p (.i .i64) (.i .i64)) x.1)), (4, .undef), (6, (.int .i64 x.2))])))
noncomputable def lp_spec_pgGood_2 {ρ : Type} : List (LpEnt ρ) := ⟨5, B_spec_pgGood_5, lpC ci_spec_pgGood_5 xe_spec_pgGood_5 (fun v kn ke => spec_pgGood_R5 v.1 v.2.1 v.2.2.1 v.2.2.2.1 v.2.2.2.2 (fun a0 a1 a2 a3 a4 => kn (a0, a1, a2, a3, a4)) (fun a0 a1 a2 => ke (.inl (a0, a1, a2))) (fun a0 a1 => ke (.inr (a0, a1))))⟩ :: lp_spec_pgGood_1
theorem ls_spec_pgGood_2 {ρ : Type} : LpEnts Try.prog st_spec_pgGood (lp_spec_pgGood_2 (ρ := ρ)) := loop_more (st_ok _ _ _) fs_spec_pgGood ls_spec_pgGood_1 (by kernel_rfl) (has_of (by kernel_rfl) (has_cons (c := B_spec_pgGood_10) 0 (by kernel_rfl) has_nil)) ci_spec_pgGood_5 [0, 4, 6] xe_spec_pgGood_5 (fun v kn ke => spec_pgGood_R5 v.1 v.2.1 v.2.2.1 v.2.2.2.1 v.2.2.2.2 (fun a0 a1 a2 a3 a4 => kn (a0, a1, a2, a3, a4)) (fun a0 a1 a2 => ke (.inl (a0, a1, a2))) (fun a0 a1 => ke (.inr (a0, a1)))) (fun v => by kernel_rfl) (fun v KN KE => by kernel_rfl) 5
def ci_spec_pgGood_23 : CodS ((List (Int × Int)) × Int × Int × (Int × Int) × (Int × Int) × Int × (List (Int × Int)) × Int × Int) := ⟨[0, 6, 16, 18, 20, 22, 80, 82, 84], (lCons (cSl 0 (.p (.i .i64) (.i .i64))) (lCons (cInt .i64) (lCons (cInt .i64) (lCons (cBox (lCons (cInt .i64) (lOne (cInt .i64)))) (lCons (cBox (lCons (cInt .i64) (lOne (cInt .i64)))) (lCons (cInt .i64) (lCons (cSl 0 (.p (.i .i64) (.i .i64))) (lCons (cInt .i64) (lOne (cInt .i64))))))))))⟩
def xe_spec_pgGood_23 {ρ : Type} (K : X → St → Option ρ) : (((List (Int × Int)) × Bool × Int × (List (Int × Int)) × Int × Int) ⊕ ((List (Int × Int)) × Int × (List (Int × Int)) × Int × Int)) → Option ρ := (Sum.elim (fun x => K .ret (Go.VI.mk [(0, (.sl 0 (.p (.i .i64) (.i .i64)) x.1)), (4, (.bool x.2.1)), (6, (.int .i64 x.2.2.1)), (80, (.sl 0 (.p (.i .i64) (.i .i64)) x.2.2.2.1)), (82, (.int .i64 x.2.2.2.2.1)), (84, (.int .i64 x.2.2.2.2.2))])) (fun x => K (.exit 6) (Go.VI.mk [(0, (.sl 0 (.p (.i .i64) (.i .i64)) x.1)), (4, .undef), (6, (.int .i64 x.2.1)), (80, (.sl 0 (.p (.i .i64) (.i .i64)) x.2.2.1)), (82, (.int .i64 x.2.2.2.1)), (84, (.int .i64 x.2.2.2.2))])))
noncomputable def lp_spec_pgGood_3 {ρ : Type} : List (LpEnt ρ) := ⟨23, B_spec_pgGood_23, lpC ci_spec_pgGood_23 xe_spec_pgGood_23 (fun v kn ke => spec_pgGood_R23 v.1 v.2.1 v.2.2.1 v.2.2.2.1 v.2.2.2.2.1 v.2.2.2.2.2.1 v.2.2.2.2.2.2.1 v.2.2.2.2.2.2.2.1 v.2.2.2.2.2.2.2.2 (fun a0 a1 a2 a3 a4 a5 a6 a7 a8 => kn (a0, a1, a2, a3, a4, a5, a6, a7, a8)) (fun a0 a1 a2 a3 a4 a5 => ke (.inl (a0, a1, a2, a3, a4, a5))) (fun a0 a1 a2 a3 a4 => ke (.inr (a0, a1, a2, a3, a4))))⟩ :: lp_spec_pgGood_2
theorem ls_spec_pgGood_3 {ρ : Type} : LpEnts Try.prog st_spec_pgGood (lp_spec_pgGood_3 (ρ := ρ)) := loop_more (st_ok _ _ _) fs_spec_pgGood ls_spec_pgGood_2 (by kernel_rfl) (has_of (by kernel_rfl) has_nil) ci_spec_pgGood_23 [0, 4, 6, 80, 82, 84] xe_spec_pgGood_23 (fun v kn ke => spec_pgGood_R23 v.1 v.2.1 v.2.2.1 v.2.2.2.1 v.2.2.2.2.1 v.2.2.2.2.2.1 v.2.2.2.2.2.2.1 v.2.2.2.2.2.2.2.1 v.2.2.2.2.2.2.2.2 (fun a0 a1 a2 a3 a4 a5 a6 a7 a8 => kn (a0, a1, a2, a3, a4, a5, a6, a7, a8)) (fun a0 a1 a2 a3 a4 a5 => ke (.inl (a0, a1, a2, a3, a4, a5))) (fun a0 a1 a2 a3 a4 => ke (.inr (a0, a1, a2, a3, a4)))) (fun v => by kernel_rfl) (fun v KN KE => by kernel_rfl) 23
def ci_spec_pgGood_17 : CodS ((List (Int × Int)) × Int × (List (Int × Int)) × Int × Int) := ⟨[0, 6, 80, 82, 84], (lCons (cSl 0 (.p (.i .i64) (.i .i64))) (lCons (cInt .i64) (lCons (cSl 0 (.p (.i .i64) (.i .i64))) (lCons (cInt .i64) (lOne (cInt .i64))))))⟩
def xe_spec_pgGood_17 {ρ : Type} (K : X → St → Option ρ) : (Bool ⊕ Unit) → Option ρ := (Sum.elim (fun x => K .ret (Go.VI.mk [(4, (.bool x))])) (fun _ => K (.exit 4) (Go.VI.mk [(4, .undef)])))
noncomputable def lp_spec_pgGood_4 {ρ : Type} : List (LpEnt ρ) := ⟨17, B_spec_pgGood_17, lpC ci_spec_pgGood_17 xe_spec_pgGood_17 (fun v kn ke => spec_pgGood_R17 v.1 v.2.1 v.2.2.1 v.2.2.2.1 v.2.2.2.2 (fun a0 a1 a2 a3 a4 => kn (a0, a1, a2, a3, a4)) (fun a0 => ke (.inl a0)) (ke (.inr ())))⟩ :: lp_spec_pgGood_3
theorem ls_spec_pgGood_4 {ρ : Type} : LpEnts Try.prog st_spec_pgGood (lp_spec_pgGood_4 (ρ := ρ)) := loop_more (st_ok _ _ _) fs_spec_pgGood ls_spec_pgGood_3 (by kernel_rfl) (has_of (by kernel_rfl) (has_cons (c := B_spec_pgGood_23) 0 (by kernel_rfl) has_nil)) ci_spec_pgGood_17 [4] xe_spec_pgGood_17 (fun v kn ke => spec_pgGood_R17 v.1 v.2.1 v.2.2.1 v.2.2.2.1 v.2.2.2.2 (fun a0 a1 a2 a3 a4 => kn (a0, a1, a2, a3, a4)) (fun a0 => ke (.inl a0)) (ke (.inr ()))) (fun v => by kernel_rfl) (fun v KN KE => by kernel_rfl) 17
noncomputable def C_spec_pgGood {ρ : Type} : FnCl ρ := fnC 21 (lOne (cSl 0 (.p (.i .i64) (.i .i64)))) lNil (fun (e : Bool) => (((.bool e) : PV), ([] : List PV))) (fun a o K => spec_pgGood a (fun r0 => K r0))
theorem S_spec_pgGood {ρ : Type} : FnSound Try.prog (C_spec_pgGood (ρ := ρ)) := fn_sound (st_ok _ _ _) fs_spec_pgGood ls_spec_pgGood_4 (by kernel_rfl) (fn := Try.f21) (by kernel_rfl) (by kernel_rfl) (has_of (by kernel_rfl) (has_cons (c := B_spec_pgGood_5) 2 (by kernel_rfl) (has_cons (c := B_spec_pgGood_17) 0 (by kernel_rfl) has_nil))) _ _ _ _ (fun a => by kernel_rfl) (fun a o K => by kernel_rfl)
abbrev st_spec_l1Most : Sta := stOf [] [] 10
noncomputable def fns_spec_l1Most {ρ : Type} : List (FnCl ρ) := []
theorem fs_spec_l1Most {ρ : Type} : ∀ c ∈ fns_spec_l1Most (ρ := ρ), FnSound Try.prog c := fs_nil
noncomputable def lp_spec_l1Most_0 {ρ : Type} : List (LpEnt ρ) := []
theorem ls_spec_l1Most_0 {ρ : Type} : LpEnts Try.prog st_spec_l1Most (lp_spec_l1Most_0 (ρ := ρ)) := fun _ h => nomatch h
noncomputable def C_spec_l1Most {ρ : Type} : FnCl ρ := fnC 79 (lCons (cInt .i64) (lOne (cInt .i64))) lNil (fun (e : Int) => (((.int .i64 e) : PV), ([] : List PV))) (fun a o K => spec_l1Most a.1 a.2 (fun r0 => K r0))
theorem S_spec_l1Most {ρ : Type} : FnSound Try.prog (C_spec_l1Most (ρ := ρ)) := fn_sound (st_ok _ _ _) fs_spec_l1Most ls_spec_l1Most_0 (by kernel_rfl) (fn := Try.f79) (by kernel_rfl) (by kernel_rfl) (has_of (by kernel_rfl) has_nil) _ _ _ _ (fun a => by kernel_rfl) (fun a o K => by kernel_rfl)
abbrev st_spec_l1Abs : Sta := stOf [] [] 7
noncomputable def fns_spec_l1Abs {ρ : Type} : List (FnCl ρ) := [C_spec_l1Most]
theorem fs_spec_l1Abs {ρ : Type} : ∀ c ∈ fns_spec_l1Abs (ρ := ρ), FnSound Try.prog c := (fs_cons S_spec_l1Most fs_nil)
noncomputable def lp_spec_l1Abs_0 {ρ : Type} : List (LpEnt ρ) := []
theorem ls_spec_l1Abs_0 {ρ : Type} : LpEnts Try.prog st_spec_l1Abs (lp_spec_l1Abs_0 (ρ := ρ)) := fun _ h => nomatch h
noncomputable def C_spec_l1Abs {ρ : Type} : FnCl ρ := fnC 54 (lOne (cInt .i64)) lNil (fun (e : Int) => (((.int .i64 e) : PV), ([] : List PV))) (fun a o K => spec_l1Abs a (fun r0 => K r0))
theorem S_spec_l1Abs {ρ : Type} : FnSound Try.prog (C_spec_l1Abs (ρ := ρ)) := fn_sound (st_ok _ _ _) fs_spec_l1Abs ls_spec_l1Abs_0 (by kernel_rfl) (fn := Try.f54) (by kernel_rfl) (by kernel_rfl) (has_of (by kernel_rfl) has_nil) _ _ _ _ (fun a => by kernel_rfl) (fun a o K => by kernel_rfl)
abbrev st_spec_pgCommon : Sta := stOf [] [] 16
noncomputable def fns_spec_pgCommon {ρ : Type} : List (FnCl ρ) := [C_spec_l1Abs]
theorem fs_spec_pgCommon {ρ : Type} : ∀ c ∈ fns_spec_pgCommon (ρ := ρ), FnSound Try.prog c := (fs_cons S_spec_l1Abs fs_nil)
noncomputable def lp_spec_pgCommon_0 {ρ : Type} : List (LpEnt ρ) := []
theorem ls_spec_pgCommon_0 {ρ : Type} : LpEnts Try.prog st_spec_pgCommon (lp_spec_pgCommon_0 (ρ := ρ)) := fun _ h => nomatch h
noncomputable def B_spec_pgCommon_3 : Code := (loopsOf (bodyOf Try.f64)).getD 0 .skip
def ci_spec_pgCommon_3 : CodS (Int × Int) := ⟨[0, 2], (lCons (cInt .i64) (lOne (cInt .i64)))⟩
def xe_spec_pgCommon_3 {ρ : Type} (K : X → St → Option ρ) : Int → Option ρ := (fun x => K (.exit 0) (Go.VI.mk [(0, (.int .i64 x))]))
noncomputable def lp_spec_pgCommon_1 {ρ : Type} : List (LpEnt ρ) := ⟨3, B_spec_pgCommon_3, lpC ci_spec_pgCommon_3 xe_spec_pgCommon_3 (fun v kn ke => spec_pgCommon_R3 v.1 v.2 (fun a0 a1 => kn (a0, a1)) (fun a0 => ke a0))⟩ :: lp_spec_pgCommon_0
theorem ls_spec_pgCommon_1 {ρ : Type} : LpEnts Try.prog st_spec_pgCommon (lp_spec_pgCommon_1 (ρ := ρ)) := loop_more (st_ok _ _ _) fs_spec_pgCommon ls_spec_pgCommon_0 (by kernel_rfl) (has_of (by kernel_rfl) has_nil) ci_spec_pgCommon_3 [0] xe_spec_pgCommon_3 (fun v kn ke => spec_pgCommon_R3 v.1 v.2 (fun a0 a1 => kn (a0, a1)) (fun a0 => ke a0)) (fun v => by kernel_rfl) (fun v KN KE => by kernel_rfl) 3
noncomputable def C_spec_pgCommon {ρ : Type} : FnCl ρ := fnC 64 (lCons (cInt .i64) (lOne (cInt .i64))) lNil (fun (e : Int) => (((.int .i64 e) : PV), ([] : List PV))) (fun a o K => spec_pgCommon a.1 a.2 (fun r0 => K r0))
theorem S_spec_pgCommon {ρ : Type} : FnSound Try.prog (C_spec_pgCommon (ρ := ρ)) := fn_sound (st_ok _ _ _) fs_spec_pgCommon ls_spec_pgCommon_1 (by kernel_rfl) (fn := Try.f64) (by kernel_rfl) (by kernel_rfl) (has_of (by kernel_rfl) (has_cons (c := B_spec_pgCommon_3) 0 (by kernel_rfl) has_nil)) _ _ _ _ (fun a => by kernel_rfl) (fun a o K => by kernel_rfl)
abbrev st_spec_l1Least : Sta := stOf [] [] 10
noncomputable def fns_spec_l1Least {ρ : Type} : List (FnCl ρ) := []
theorem fs_spec_l1Least {ρ : Type} : ∀ c ∈ fns_spec_l1Least (ρ := ρ), FnSound Try.prog c := fs_nil
noncomputable def lp_spec_l1Least_0 {ρ : Type} : List (LpEnt ρ) := []
theorem ls_spec_l1Least_0 {ρ : Type} : LpEnts Try.prog st_spec_l1Least (lp_spec_l1Least_0 (ρ := ρ)) := fun _ h => nomatch h
noncomputable def C_spec_l1Least {ρ : Type} : FnCl ρ := fnC 80 (lCons (cInt .i64) (lOne (cInt .i64))) lNil (fun (e : Int) => (((.int .i64 e) : PV), ([] : List PV))) (fun a o K => spec_l1Least a.1 a.2 (fun r0 => K r0))
theorem S_spec_l1Least {ρ : Type} : FnSound Try.prog (C_spec_l1Least (ρ := ρ)) := fn_sound (st_ok _ _ _) fs_spec_l1Least ls_spec_l1Least_0 (by kernel_rfl) (fn := Try.f80) (by kernel_rfl) (by kernel_rfl) (has_of (by kernel_rfl) has_nil) _ _ _ _ (fun a => by kernel_rfl) (fun a o K => by kernel_rfl)
abbrev st_spec_wiRange : Sta := stOf [] [] 51
noncomputable def fns_spec_wiRange {ρ : Type} : List (FnCl ρ) := [C_spec_l1Least, C_spec_l1Most]
theorem fs_spec_wiRange {ρ : Type} : ∀ c ∈ fns_spec_wiRange (ρ := ρ), FnSound Try.prog c := (fs_cons S_spec_l1Least (fs_cons S_spec_l1Most fs_nil))
noncomputable def lp_spec_wiRange_0 {ρ : Type} : List (LpEnt ρ) := []
theorem ls_spec_wiRange_0 {ρ : Type} : LpEnts Try.prog st_spec_wiRange (lp_spec_wiRange_0 (ρ := ρ)) := fun _ h => nomatch h
noncomputable def B_spec_wiRange_4 : Code := (loopsOf (bodyOf Try.f56)).getD 0 .skip
def ci_spec_wiRange_4 : CodS (Int × Int × Int × Int × (List (Int × Int)) × Int × Int) := ⟨[2, 4, 16, 18, 54, 56, 58], (lCons (cInt .i64) (lCons (cInt .i64) (lCons (cInt .i64) (lCons (cInt .i64) (lCons (cSl 0 (.p (.i .i64) (.i .i64))) (lCons (cInt .i64) (lOne (cInt .i64))))))))⟩
def xe_spec_wiRange_4 {ρ : Type} (K : X → St → Option ρ) : ((Int × Int)) → Option ρ := (fun x => K (.exit 0) (Go.VI.mk [(16, (.int .i64 x.1)), (18, (.int .i64 x.2))]))
noncomputable def lp_spec_wiRange_1 {ρ : Type} : List (LpEnt ρ) := ⟨4, B_spec_wiRange_4, lpC ci_spec_wiRange_4 xe_spec_wiRange_4 (fun v kn ke => spec_wiRange_R4 v.1 v.2.1 v.2.2.1 v.2.2.2.1 v.2.2.2.2.1 v.2.2.2.2.2.1 v.2.2.2.2.2.2 (fun a0 a1 a2 a3 a4 a5 a6 => kn (a0, a1, a2, a3, a4, a5, a6)) (fun a0 a1 => ke (a0, a1)))⟩ :: lp_spec_wiRange_0
theorem ls_spec_wiRange_1 {ρ : Type} : LpEnts Try.prog st_spec_wiRange (lp_spec_wiRange_1 (ρ := ρ)) := loop_more (st_ok _ _ _) fs_spec_wiRange ls_spec_wiRange_0 (by kernel_rfl) (has_of (by kernel_rfl) has_nil) ci_spec_wiRange_4 [16, 18] xe_spec_wiRange_4 (fun v kn ke => spec_wiRange_R4 v.1 v.2.1 v.2.2.1 v.2.2.2.1 v.2.2.2.2.1 v.2.2.2.2.2.1 v.2.2.2.2.2.2 (fun a0 a1 a2 a3 a4 a5 a6 => kn (a0, a1, a2, a3, a4, a5, a6)) (fun a0 a1 => ke (a0, a1))) (fun v => by kernel_rfl) (fun v KN KE => by kernel_rfl) 4
noncomputable def C_spec_wiRange {ρ : Type} : FnCl ρ := fnC 56 (lCons (cSl 0 (.p (.i .i64) (.i .i64))) (lCons (cInt .i64) (lOne (cInt .i64)))) lNil (fun (e : Int × Int) => (((.tup [(.int .i64 e.1), (.int .i64 e.2)]) : PV), ([] : List PV))) (fun a o K => spec_wiRange a.1 a.2.1 a.2.2 (fun r0 r1 => K (r0, r1)))
theorem S_spec_wiRange {ρ : Type} : FnSound Try.prog (C_spec_wiRange (ρ := ρ)) := fn_sound (st_ok _ _ _) fs_spec_wiRange ls_spec_wiRange_1 (by kernel_rfl) (fn := Try.f56) (by kernel_rfl) (by kernel_rfl) (has_of (by kernel_rfl) (has_cons (c := B_spec_wiRange_4) 0 (by kernel_rfl) has_nil)) _ _ _ _ (fun a => by kernel_rfl) (fun a o K => by kernel_rfl)
abbrev st_spec_wiWidth : Sta := stOf [(1, 4, 1)] [] 19
noncomputable def fns_spec_wiWidth {ρ : Type} : List (FnCl ρ) := [C_spec_wiRange]
theorem fs_spec_wiWidth {ρ : Type} : ∀ c ∈ fns_spec_wiWidth (ρ := ρ), FnSound Try.prog c := (fs_cons S_spec_wiRange fs_nil)
noncomputable def lp_spec_wiWidth_0 {ρ : Type} : List (LpEnt ρ) := []
theorem ls_spec_wiWidth_0 {ρ : Type} : LpEnts Try.prog st_spec_wiWidth (lp_spec_wiWidth_0 (ρ := ρ)) := fun _ h => nomatch h
noncomputable def C_spec_wiWidth {ρ : Type} : FnCl ρ := fnC 65 (lCons (cSl 0 (.p (.i .i64) (.i .i64))) (lCons (cInt .i64) (lOne (cInt .i64)))) lNil (fun (e : Int) => (((.int .i64 e) : PV), ([] : List PV))) (fun a o K => spec_wiWidth a.1 a.2.1 a.2.2 (fun r0 => K r0))
theorem S_spec_wiWidth {ρ : Type} : FnSound Try.prog (C_spec_wiWidth (ρ := ρ)) := fn_sound (st_ok _ _ _) fs_spec_wiWidth ls_spec_wiWidth_0 (by kernel_rfl) (fn := Try.f65) (by kernel_rfl) (by kernel_rfl) (has_of (by kernel_rfl) has_nil) _ _ _ _ (fun a => by kernel_rfl) (fun a o K => by kernel_rfl)
abbrev st_spec_wiAll : Sta := stOf [(4, 0, 11), (19, 0, 1), (19, 1, 1), (20, 0, 1)] [] 193
noncomputable def fns_spec_wiAll {ρ : Type} : List (FnCl ρ) := [C_spec_pgCommon, C_spec_wiWidth]
theorem fs_spec_wiAll {ρ : Type} : ∀ c ∈ fns_spec_wiAll (ρ := ρ), FnSound Try.prog c := (fs_cons S_spec_pgCommon (fs_cons S_spec_wiWidth fs_nil))
noncomputable def lp_spec_wiAll_0 {ρ : Type} : List (LpEnt ρ) := []
theorem ls_spec_wiAll_0 {ρ : Type} : LpEnts Try.prog st_spec_wiAll (lp_spec_wiAll_0 (ρ := ρ)) := fun _ h => nomatch h
noncomputable def B_spec_wiAll_6 : Code := (loopsOf (bodyOf Try.f41)).getD 0 .skip
noncomputable def B_spec_wiAll_9 : Code := (loopsOf B_spec_wiAll_6).getD 0 .skip
noncomputable def B_spec_wiAll_16 : Code := (loopsOf B_spec_wiAll_9).getD 0 .skip
def ci_spec_wiAll_16 : CodS ((List (Int × Int)) × Int × (Int × Int) × (Int × Int) × Int × (List (List Int)) × Int × Int × Int × Int × Int) := ⟨[0, 2, 10, 12, 14, 16, 18, 20, 26, 28, 30], (lCons (cSl 0 (.p (.i .i64) (.i .i64))) (lCons (cInt .i64) (lCons (cBox (lCons (cInt .i64) (lOne (cInt .i64)))) (lCons (cBox (lCons (cInt .i64) (lOne (cInt .i64)))) (lCons (cInt .i64) (lCons (cSl 1 (.l (.i .i64))) (lCons (cInt .i64) (lCons (cInt .i64) (lCons (cInt .i64) (lCons (cInt .i64) (lOne (cInt .i64))))))))))))⟩
def xe_spec_wiAll_16 {ρ : Type} (K : X → St → Option ρ) : (((List (Int × Int)) × Int × (Int × Int) × (Int × Int) × Int × (List (List Int)) × Int × Int × Int × Int × Int)) → Option ρ := (fun x => K (.exit 4) (Go.VI.mk [(0, (.sl 0 (.p (.i .i64) (.i .i64)) x.1)), (2, (.int .i64 x.2.1)), (10, (.box [(.int .i64 x.2.2.1.1), (.int .i64 x.2.2.1.2)])), (12, (.box [(.int .i64 x.2.2.2.1.1), (.int .i64 x.2.2.2.1.2)])), (14, (.int .i64 x.2.2.2.2.1)), (16, (.sl 1 (.l (.i .i64)) x.2.2.2.2.2.1)), (18, (.int .i64 x.2.2.2.2.2.2.1)), (20, (.int .i64 x.2.2.2.2.2.2.2.1)), (26, (.int .i64 x.2.2.2.2.2.2.2.2.1)), (28, (.int .i64 x.2.2.2.2.2.2.2.2.2.1)), (30, (.int .i64 x.2.2.2.2.2.2.2.2.2.2))]))
noncomputable def lp_spec_wiAll_1 {ρ : Type} : List (LpEnt ρ) := ⟨16, B_spec_wiAll_16, lpC ci_spec_wiAll_16 xe_spec_wiAll_16 (fun v kn ke => spec_wiAll_R16 v.1 v.2.1 v.2.2.1 v.2.2.2.1 v.2.2.2.2.1 v.2.2.2.2.2.1 v.2.2.2.2.2.2.1 v.2.2.2.2.2.2.2.1 v.2.2.2.2.2.2.2.2.1 v.2.2.2.2.2.2.2.2.2.1 v.2.2.2.2.2.2.2.2.2.2 (fun a0 a1 a2 a3 a4 a5 a6 a7 a8 a9 a10 => kn (a0, a1, a2, a3, a4, a5, a6, a7, a8, a9, a10)) (fun a0 a1 a2 a3 a4 a5 a6 a7 a8 a9 a10 => ke (a0, a1, a2, a3, a4, a5, a6, a7, a8, a9, a10)))⟩ :: lp_spec_wiAll_0
theorem ls_spec_wiAll_1 {ρ : Type} : LpEnts Try.prog st_spec_wiAll (lp_spec_wiAll_1 (ρ := ρ)) := loop_more (st_ok _ _ _) fs_spec_wiAll ls_spec_wiAll_0 (by kernel_rfl) (has_of (by kernel_rfl) has_nil) ci_spec_wiAll_16 [0, 2, 10, 12, 14, 16, 18, 20, 26, 28, 30] xe_spec_wiAll_16 (fun v kn ke => spec_wiAll_R16 v.1 v.2.1 v.2.2.1 v.2.2.2.1 v.2.2.2.2.1 v.2.2.2.2.2.1 v.2.2.2.2.2.2.1 v.2.2.2.2.2.2.2.1 v.2.2.2.2.2.2.2.2.1 v.2.2.2.2.2.2.2.2.2.1 v.2.2.2.2.2.2.2.2.2.2 (fun a0 a1 a2 a3 a4 a5 a6 a7 a8 a9 a10 => kn (a0, a1, a2, a3, a4, a5, a6, a7, a8, a9, a10)) (fun a0 a1 a2 a3 a4 a5 a6 a7 a8 a9 a10 => ke (a0, a1, a2, a3, a4, a5, a6, a7, a8, a9, a10))) (fun v => by kernel_rfl) (fun v KN KE => by kernel_rfl) 16
def ci_spec_wiAll_9 : CodS ((List (Int × Int)) × Int × (Int × Int) × (Int × Int) × Int × (List (List Int)) × Int × Int) := ⟨[0, 2, 10, 12, 14, 16, 18, 20], (lCons (cSl 0 (.p (.i .i64) (.i .i64))) (lCons (cInt .i64) (lCons (cBox (lCons (cInt .i64) (lOne (cInt .i64)))) (lCons (cBox (lCons (cInt .i64) (lOne (cInt .i64)))) (lCons (cInt .i64) (lCons (cSl 1 (.l (.i .i64))) (lCons (cInt .i64) (lOne (cInt .i64)))))))))⟩
def xe_spec_wiAll_9 {ρ : Type} (K : X → St → Option ρ) : (((List (Int × Int)) × Int × (Int × Int) × (Int × Int) × Int × (List (List Int)) × Int)) → Option ρ := (fun x => K (.exit 2) (Go.VI.mk [(0, (.sl 0 (.p (.i .i64) (.i .i64)) x.1)), (2, (.int .i64 x.2.1)), (10, (.box [(.int .i64 x.2.2.1.1), (.int .i64 x.2.2.1.2)])), (12, (.box [(.int .i64 x.2.2.2.1.1), (.int .i64 x.2.2.2.1.2)])), (14, (.int .i64 x.2.2.2.2.1)), (16, (.sl 1 (.l (.i .i64)) x.2.2.2.2.2.1)), (18, (.int .i64 x.2.2.2.2.2.2))]))
noncomputable def lp_spec_wiAll_2 {ρ : Type} : List (LpEnt ρ) := ⟨9, B_spec_wiAll_9, lpC ci_spec_wiAll_9 xe_spec_wiAll_9 (fun v kn ke => spec_wiAll_R9 v.1 v.2.1 v.2.2.1 v.2.2.2.1 v.2.2.2.2.1 v.2.2.2.2.2.1 v.2.2.2.2.2.2.1 v.2.2.2.2.2.2.2 (fun a0 a1 a2 a3 a4 a5 a6 a7 => kn (a0, a1, a2, a3, a4, a5, a6, a7)) (fun a0 a1 a2 a3 a4 a5 a6 => ke (a0, a1, a2, a3, a4, a5, a6)))⟩ :: lp_spec_wiAll_1
theorem ls_spec_wiAll_2 {ρ : Type} : LpEnts Try.prog st_spec_wiAll (lp_spec_wiAll_2 (ρ := ρ)) := loop_more (st_ok _ _ _) fs_spec_wiAll ls_spec_wiAll_1 (by kernel_rfl) (has_of (by kernel_rfl) (has_cons (c := B_spec_wiAll_16) 0 (by kernel_rfl) has_nil)) ci_spec_wiAll_9 [0, 2, 10, 12, 14, 16, 18] xe_spec_wiAll_9 (fun v kn ke => spec_wiAll_R9 v.1 v.2.1 v.2.2.1 v.2.2.2.1 v.2.2.2.2.1 v.2.2.2.2.2.1 v.2.2.2.2.2.2.1 v.2.2.2.2.2.2.2 (fun a0 a1 a2 a3 a4 a5 a6 a7 => kn (a0, a1, a2, a3, a4, a5, a6, a7)) (fun a0 a1 a2 a3 a4 a5 a6 => ke (a0, a1, a2, a3, a4, a5, a6))) (fun v => by kernel_rfl) (fun v KN KE => by kernel_rfl) 9
def ci_spec_wiAll_6 : CodS ((List (Int × Int)) × Int × (Int × Int) × (Int × Int) × Int × (List (List Int)) × Int) := ⟨[0, 2, 10, 12, 14, 16, 18], (lCons (cSl 0 (.p (.i .i64) (.i .i64))) (lCons (cInt .i64) (lCons (cBox (lCons (cInt .i64) (lOne (cInt .i64)))) (lCons (cBox (lCons (cInt .i64) (lOne (cInt .i64)))) (lCons (cInt .i64) (lCons (cSl 1 (.l (.i .i64))) (lOne (cInt .i64))))))))⟩
def xe_spec_wiAll_6 {ρ : Type} (K : X → St → Option ρ) : (List (List Int)) → Option ρ := (fun x => K (.exit 0) (Go.VI.mk [(16, (.sl 1 (.l (.i .i64)) x))]))
noncomputable def lp_spec_wiAll_3 {ρ : Type} : List (LpEnt ρ) := ⟨6, B_spec_wiAll_6, lpC ci_spec_wiAll_6 xe_spec_wiAll_6 (fun v kn ke => spec_wiAll_R6 v.1 v.2.1 v.2.2.1 v.2.2.2.1 v.2.2.2.2.1 v.2.2.2.2.2.1 v.2.2.2.2.2.2 (fun a0 a1 a2 a3 a4 a5 a6 => kn (a0, a1, a2, a3, a4, a5, a6)) (fun a0 => ke a0))⟩ :: lp_spec_wiAll_2
theorem ls_spec_wiAll_3 {ρ : Type} : LpEnts Try.prog st_spec_wiAll (lp_spec_wiAll_3 (ρ := ρ)) := loop_more (st_ok _ _ _) fs_spec_wiAll ls_spec_wiAll_2 (by kernel_rfl) (has_of (by kernel_rfl) (has_cons (c := B_spec_wiAll_9) 0 (by kernel_rfl) has_nil)) ci_spec_wiAll_6 [16] xe_spec_wiAll_6 (fun v kn ke => spec_wiAll_R6 v.1 v.2.1 v.2.2.1 v.2.2.2.1 v.2.2.2.2.1 v.2.2.2.2.2.1 v.2.2.2.2.2.2 (fun a0 a1 a2 a3 a4 a5 a6 => kn (a0, a1, a2, a3, a4, a5, a6)) (fun a0 => ke a0)) (fun v => by kernel_rfl) (fun v KN KE => by kernel_rfl) 6
noncomputable def C_spec_wiAll {ρ : Type} : FnCl ρ := fnC 41 (lCons (cSl 0 (.p (.i .i64) (.i .i64))) (lOne (cInt .i64))) lNil (fun (e : List (List Int)) => (((.sl 1 (.l (.i .i64)) e) : PV), ([] : List PV))) (fun a o K => spec_wiAll a.1 a.2 (fun r0 => K r0))
theorem S_spec_wiAll {ρ : Type} : FnSound Try.prog (C_spec_wiAll (ρ := ρ)) := fn_sound (st_ok _ _ _) fs_spec_wiAll ls_spec_wiAll_3 (by kernel_rfl) (fn := Try.f41) (by kernel_rfl) (by kernel_rfl) (has_of (by kernel_rfl) (has_cons (c := B_spec_wiAll_6) 0 (by kernel_rfl) has_nil)) _ _ _ _ (fun a => by kernel_rfl) (fun a o K => by kernel_rfl)
abbrev st_spec_wiLeast : Sta := stOf [(5, 1, 1)] [] 16
noncomputable def fns_spec_wiLeast {ρ : Type} : List (FnCl ρ) := [C_spec_wiAll]
theorem fs_spec_wiLeast {ρ : Type} : ∀ c ∈ fns_spec_wiLeast (ρ := ρ), FnSound Try.prog c := (fs_cons S_spec_wiAll fs_nil)
noncomputable def lp_spec_wiLeast_0 {ρ : Type} : List (LpEnt ρ) := []
theorem ls_spec_wiLeast_0 {ρ : Type} : LpEnts Try.prog st_spec_wiLeast (lp_spec_wiLeast_0 (ρ := ρ)) := fun _ h => nomatch h
noncomputable def B_spec_wiLeast_3 : Code := (loopsOf (bodyOf Try.f22)).getD 0 .skip
def ci_spec_wiLeast_3 : CodS ((List (Int × Int)) × Int) := ⟨[0, 8], (lCons (cSl 0 (.p (.i .i64) (.i .i64))) (lOne (cInt .i64)))⟩
def xe_spec_wiLeast_3 {ρ : Type} (K : X → St → Option ρ) : ((Int × List (List Int))) → Option ρ := (fun x => K .ret (Go.VI.mk [(4, (.int .i64 x.1)), (6, (.sl 1 (.l (.i .i64)) x.2))]))
noncomputable def lp_spec_wiLeast_1 {ρ : Type} : List (LpEnt ρ) := ⟨3, B_spec_wiLeast_3, lpC ci_spec_wiLeast_3 xe_spec_wiLeast_3 (fun v kn ke => spec_wiLeast_R3 v.1 v.2 (fun a0 a1 => kn (a0, a1)) (fun a0 a1 => ke (a0, a1)))⟩ :: lp_spec_wiLeast_0
theorem ls_spec_wiLeast_1 {ρ : Type} : LpEnts Try.prog st_spec_wiLeast (lp_spec_wiLeast_1 (ρ := ρ)) := loop_more (st_ok _ _ _) fs_spec_wiLeast ls_spec_wiLeast_0 (by kernel_rfl) (has_of (by kernel_rfl) has_nil) ci_spec_wiLeast_3 [4, 6] xe_spec_wiLeast_3 (fun v kn ke => spec_wiLeast_R3 v.1 v.2 (fun a0 a1 => kn (a0, a1)) (fun a0 a1 => ke (a0, a1))) (fun v => by kernel_rfl) (fun v KN KE => by kernel_rfl) 3
noncomputable def C_spec_wiLeast {ρ : Type} : FnCl ρ := fnC 22 (lOne (cSl 0 (.p (.i .i64) (.i .i64)))) lNil (fun (e : Int × List (List Int)) => (((.tup [(.int .i64 e.1), (.sl 1 (.l (.i .i64)) e.2)]) : PV), ([] : List PV))) (fun a o K => spec_wiLeast a (fun r0 r1 => K (r0, r1)))
theorem S_spec_wiLeast {ρ : Type} : FnSound Try.prog (C_spec_wiLeast (ρ := ρ)) := fn_sound (st_ok _ _ _) fs_spec_wiLeast ls_spec_wiLeast_1 (by kernel_rfl) (fn := Try.f22) (by kernel_rfl) (by kernel_rfl) (has_of (by kernel_rfl) (has_cons (c := B_spec_wiLeast_3) 0 (by kernel_rfl) has_nil)) _ _ _ _ (fun a => by kernel_rfl) (fun a o K => by kernel_rfl)
abbrev st_spec_DirectionsOfWidth : Sta := stOf [(2, 0, 11), (3, 2, 1), (4, 0, 1)] [] 15
noncomputable def fns_spec_DirectionsOfWidth {ρ : Type} : List (FnCl ρ) := [C_spec_pgGood, C_spec_wiLeast]
theorem fs_spec_DirectionsOfWidth {ρ : Type} : ∀ c ∈ fns_spec_DirectionsOfWidth (ρ := ρ), FnSound Try.prog c := (fs_cons S_spec_pgGood (fs_cons S_spec_wiLeast fs_nil))
noncomputable def lp_spec_DirectionsOfWidth_0 {ρ : Type} : List (LpEnt ρ) := []
theorem ls_spec_DirectionsOfWidth_0 {ρ : Type} : LpEnts Try.prog st_spec_DirectionsOfWidth (lp_spec_DirectionsOfWidth_0 (ρ := ρ)) := fun _ h => nomatch h
noncomputable def C_spec_DirectionsOfWidth {ρ : Type} : FnCl ρ := fnC 7 (lOne (cSl 0 (.p (.i .i64) (.i .i64)))) lNil (fun (e : (List (List Int)) × Bool) => (((.tup [(.sl 1 (.l (.i .i64)) e.1), (.bool e.2)]) : PV), ([] : List PV))) (fun a o K => spec_DirectionsOfWidth a (fun r0 r1 => K (r0, r1)))
theorem S_spec_DirectionsOfWidth {ρ : Type} : FnSound Try.prog (C_spec_DirectionsOfWidth (ρ := ρ)) := fn_sound (st_ok _ _ _) fs_spec_DirectionsOfWidth ls_spec_DirectionsOfWidth_0 (by kernel_rfl) (fn := Try.f7) (by kernel_rfl) (by kernel_rfl) (has_of (by kernel_rfl) has_nil) _ _ _ _ (fun a => by kernel_rfl) (fun a o K => by kernel_rfl)
abbrev st_impl_within : Sta := stOf [] [] 15
noncomputable def fns_impl_within {ρ : Type} : List (FnCl ρ) := []
theorem fs_impl_within {ρ : Type} : ∀ c ∈ fns_impl_within (ρ := ρ), FnSound Try.prog c := fs_nil
noncomputable def lp_impl_within_0 {ρ : Type} : List (LpEnt ρ) := []
theorem ls_impl_within_0 {ρ : Type} : LpEnts Try.prog st_impl_within (lp_impl_within_0 (ρ := ρ)) := fun _ h => nomatch h
noncomputable def C_impl_within {ρ : Type} : FnCl ρ := fnC 42 (lCons (cInt .i64) (lCons (cInt .i64) (lOne (cInt .i64)))) lNil (fun (e : Bool) => (((.bool e) : PV), ([] : List PV))) (fun a o K => impl_within a.1 a.2.1 a.2.2 (fun r0 => K r0))
theorem S_impl_within {ρ : Type} : FnSound Try.prog (C_impl_within (ρ := ρ)) := fn_sound (st_ok _ _ _) fs_impl_within ls_impl_within_0 (by kernel_rfl) (fn := Try.f42) (by kernel_rfl) (by kernel_rfl) (has_of (by kernel_rfl) has_nil) _ _ _ _ (fun a => by kernel_rfl) (fun a o K => by kernel_rfl)
abbrev st_impl_IsPeg : Sta := stOf [] [] 11
noncomputable def fns_impl_IsPeg {ρ : Type} : List (FnCl ρ) := [C_impl_within]
theorem fs_impl_IsPeg {ρ : Type} : ∀ c ∈ fns_impl_IsPeg (ρ := ρ), FnSound Try.prog c := (fs_cons S_impl_within fs_nil)
noncomputable def lp_impl_IsPeg_0 {ρ : Type} : List (LpEnt ρ) := []
theorem ls_impl_IsPeg_0 {ρ : Type} : LpEnts Try.prog st_impl_IsPeg (lp_impl_IsPeg_0 (ρ := ρ)) := fun _ h => nomatch h
noncomputable def C_impl_IsPeg {ρ : Type} : FnCl ρ := fnC 68 (lOne (cAgg (lCons (cInt .i64) (lOne (cInt .i64))))) lNil (fun (e : Bool) => (((.bool e) : PV), ([] : List PV))) (fun a o K => impl_IsPeg a (fun r0 => K r0))
theorem S_impl_IsPeg {ρ : Type} : FnSound Try.prog (C_impl_IsPeg (ρ := ρ)) := fn_sound (st_ok _ _ _) fs_impl_IsPeg ls_impl_IsPeg_0 (by kernel_rfl) (fn := Try.f68) (by kernel_rfl) (by kernel_rfl) (has_of (by kernel_rfl) has_nil) _ _ _ _ (fun a => by kernel_rfl) (fun a o K => by kernel_rfl)
abbrev st_impl_arePegs_1 : Sta := stOf [] [] 6
noncomputable def fns_impl_arePegs_1 {ρ : Type} : List (FnCl ρ) := [C_impl_IsPeg]
theorem fs_impl_arePegs_1 {ρ : Type} : ∀ c ∈ fns_impl_arePegs_1 (ρ := ρ), FnSound Try.prog c := (fs_cons S_impl_IsPeg fs_nil)
noncomputable def lp_impl_arePegs_1_0 {ρ : Type} : List (LpEnt ρ) := []
theorem ls_impl_arePegs_1_0 {ρ : Type} : LpEnts Try.prog st_impl_arePegs_1 (lp_impl_arePegs_1_0 (ρ := ρ)) := fun _ h => nomatch h
noncomputable def C_impl_arePegs_1 {ρ : Type} : FnCl ρ := fnC 67 (lOne (cAgg (lCons (cInt .i64) (lOne (cInt .i64))))) lNil (fun (e : Bool) => (((.bool e) : PV), ([] : List PV))) (fun a o K => impl_arePegs_1 a (fun r0 => K r0))
theorem S_impl_arePegs_1 {ρ : Type} : FnSound Try.prog (C_impl_arePegs_1 (ρ := ρ)) := fn_sound (st_ok _ _ _) fs_impl_arePegs_1 ls_impl_arePegs_1_0 (by kernel_rfl) (fn := Try.f67) (by kernel_rfl) (by kernel_rfl) (has_of (by kernel_rfl) has_nil) _ _ _ _ (fun a => by kernel_rfl) (fun a o K => by kernel_rfl)
abbrev st_slices_IndexFunc_Peg_at_arePegs_1 : Sta := stOf [] [] 19
noncomputable def fns_slices_IndexFunc_Peg_at_arePegs_1 {ρ : Type} : List (FnCl ρ) := [C_impl_arePegs_1]
theorem fs_slices_IndexFunc_Peg_at_arePegs_1 {ρ : Type} : ∀ c ∈ fns_slices_IndexFunc_Peg_at_arePegs_1 (ρ := ρ), FnSound Try.prog c := (fs_cons S_impl_arePegs_1 fs_nil)
noncomputable def lp_slices_IndexFunc_Peg_at_arePegs_1_0 {ρ : Type} : List (LpEnt ρ) := []
theorem ls_slices_IndexFunc_Peg_at_arePegs_1_0 {ρ : Type} : LpEnts Try.prog st_slices_IndexFunc_Peg_at_arePegs_1 (lp_slices_IndexFunc_Peg_at_arePegs_1_0 (ρ := ρ)) := fun _ h => nomatch h
noncomputable def B_slices_IndexFunc_Peg_at_arePegs_1_2 : Code := (loopsOf (bodyOf Try.f77)).getD 0 .skip
def ci_slices_IndexFunc_Peg_at_arePegs_1_2 : CodS ((List (Int × Int)) × Int × Int) := ⟨[2, 0, 14, 16], (lSkip (cClo 67 lNil) (lCons (cSl 0 (.p (.i .i64) (.i .i64))) (lCons (cInt .i64) (lOne (cInt .i64)))))⟩
def xe_slices_IndexFunc_Peg_at_arePegs_1_2 {ρ : Type} (K : X → St → Option ρ) : (Int ⊕ Unit) → Option ρ := (Sum.elim (fun x => K .ret (Go.VI.mk [(8, (.int .i64 x))])) (fun _ => K (.exit 0) (Go.VI.mk [(8, .undef)])))
noncomputable def lp_slices_IndexFunc_Peg_at_arePegs_1_1 {ρ : Type} : List (LpEnt ρ) := ⟨2, B_slices_IndexFunc_Peg_at_arePegs_1_2, lpC ci_slices_IndexFunc_Peg_at_arePegs_1_2 xe_slices_IndexFunc_Peg_at_arePegs_1_2 (fun v kn ke => slices_IndexFunc_Peg_at_arePegs_1_R2 v.1 v.2.1 v.2.2 (fun a0 a1 a2 => kn (a0, a1, a2)) (fun a0 => ke (.inl a0)) (ke (.inr ())))⟩ :: lp_slices_IndexFunc_Peg_at_arePegs_1_0
theorem ls_slices_IndexFunc_Peg_at_arePegs_1_1 {ρ : Type} : LpEnts Try.prog st_slices_IndexFunc_Peg_at_arePegs_1 (lp_slices_IndexFunc_Peg_at_arePegs_1_1 (ρ := ρ)) := loop_more (st_ok _ _ _) fs_slices_IndexFunc_Peg_at_arePegs_1 ls_slices_IndexFunc_Peg_at_arePegs_1_0 (by kernel_rfl) (has_of (by kernel_rfl) has_nil) ci_slices_IndexFunc_Peg_at_arePegs_1_2 [8] xe_slices_IndexFunc_Peg_at_arePegs_1_2 (fun v kn ke => slices_IndexFunc_Peg_at_arePegs_1_R2 v.1 v.2.1 v.2.2 (fun a0 a1 a2 => kn (a0, a1, a2)) (fun a0 => ke (.inl a0)) (ke (.inr ()))) (fun v => by kernel_rfl) (fun v KN KE => by kernel_rfl) 2
noncomputable def C_slices_IndexFunc_Peg_at_arePegs_1 {ρ : Type} : FnCl ρ := fnC 77 (lKeep (cSl 0 (.p (.i .i64) (.i .i64))) (lOne (cClo 67 lNil))) lNil (fun (e : Int) => (((.int .i64 e) : PV), ([] : List PV))) (fun a o K => slices_IndexFunc_Peg_at_arePegs_1 a (fun r0 => K r0))
theorem S_slices_IndexFunc_Peg_at_arePegs_1 {ρ : Type} : FnSound Try.prog (C_slices_IndexFunc_Peg_at_arePegs_1 (ρ := ρ)) := fn_sound (st_ok _ _ _) fs_slices_IndexFunc_Peg_at_arePegs_1 ls_slices_IndexFunc_Peg_at_arePegs_1_1 (by kernel_rfl) (fn := Try.f77) (by kernel_rfl) (by kernel_rfl) (has_of (by kernel_rfl) (has_cons (c := B_slices_IndexFunc_Peg_at_arePegs_1_2) 0 (by kernel_rfl) has_nil)) _ _ _ _ (fun a => by kernel_rfl) (fun a o K => by kernel_rfl)
abbrev st_slices_ContainsFunc_Peg_at_arePegs_1 : Sta := stOf [] [(77, [0, 3])] 9
noncomputable def fns_slices_ContainsFunc_Peg_at_arePegs_1 {ρ : Type} : List (FnCl ρ) := [C_slices_IndexFunc_Peg_at_arePegs_1]
theorem fs_slices_ContainsFunc_Peg_at_arePegs_1 {ρ : Type} : ∀ c ∈ fns_slices_ContainsFunc_Peg_at_arePegs_1 (ρ := ρ), FnSound Try.prog c := (fs_cons S_slices_IndexFunc_Peg_at_arePegs_1 fs_nil)
noncomputable def lp_slices_ContainsFunc_Peg_at_arePegs_1_0 {ρ : Type} : List (LpEnt ρ) := []
theorem ls_slices_ContainsFunc_Peg_at_arePegs_1_0 {ρ : Type} : LpEnts Try.prog st_slices_ContainsFunc_Peg_at_arePegs_1 (lp_slices_ContainsFunc_Peg_at_arePegs_1_0 (ρ := ρ)) := fun _ h => nomatch h
noncomputable def C_slices_ContainsFunc_Peg_at_arePegs_1 {ρ : Type} : FnCl ρ := fnC 66 (lKeep (cSl 0 (.p (.i .i64) (.i .i64))) (lOne (cClo 67 lNil))) lNil (fun (e : Bool) => (((.bool e) : PV), ([] : List PV))) (fun a o K => slices_ContainsFunc_Peg_at_arePegs_1 a (fun r0 => K r0))
theorem S_slices_ContainsFunc_Peg_at_arePegs_1 {ρ : Type} : FnSound Try.prog (C_slices_ContainsFunc_Peg_at_arePegs_1 (ρ := ρ)) := fn_sound (st_ok _ _ _) fs_slices_ContainsFunc_Peg_at_arePegs_1 ls_slices_ContainsFunc_Peg_at_arePegs_1_0 (by kernel_rfl) (fn := Try.f66) (by kernel_rfl) (by kernel_rfl) (has_of (by kernel_rfl) has_nil) _ _ _ _ (fun a => by kernel_rfl) (fun a o K => by kernel_rfl)
abbrev st_impl_arePegs : Sta := stOf [] [(66, [0, 3])] 6
noncomputable def fns_impl_arePegs {ρ : Type} : List (FnCl ρ) := [C_slices_ContainsFunc_Peg_at_arePegs_1]
theorem fs_impl_arePegs {ρ : Type} : ∀ c ∈ fns_impl_arePegs (ρ := ρ), FnSound Try.prog c := (fs_cons S_slices_ContainsFunc_Peg_at_arePegs_1 fs_nil)
noncomputable def lp_impl_arePegs_0 {ρ : Type} : List (LpEnt ρ) := []
theorem ls_impl_arePegs_0 {ρ : Type} : LpEnts Try.prog st_impl_arePegs (lp_impl_arePegs_0 (ρ := ρ)) := fun _ h => nomatch h
noncomputable def C_impl_arePegs {ρ : Type} : FnCl ρ := fnC 43 (lOne (cSl 0 (.p (.i .i64) (.i .i64)))) lNil (fun (e : Bool) => (((.bool e) : PV), ([] : List PV))) (fun a o K => impl_arePegs a (fun r0 => K r0))
theorem S_impl_arePegs {ρ : Type} : FnSound Try.prog (C_impl_arePegs (ρ := ρ)) := fn_sound (st_ok _ _ _) fs_impl_arePegs ls_impl_arePegs_0 (by kernel_rfl) (fn := Try.f43) (by kernel_rfl) (by kernel_rfl) (has_of (by kernel_rfl) has_nil) _ _ _ _ (fun a => by kernel_rfl) (fun a o K => by kernel_rfl)
end Go.Proofs.Ga

namespace Go.Proofs.Ga
open Go.VI
abbrev st_slices_Index_Peg : Sta := stOf [] [] 19
noncomputable def fns_slices_Index_Peg {ρ : Type} : List (FnCl ρ) := []
theorem fs_slices_Index_Peg {ρ : Type} : ∀ c ∈ fns_slices_Index_Peg (ρ := ρ), FnSound Try.prog c := fs_nil
noncomputable def lp_slices_Index_Peg_0 {ρ : Type} : List (LpEnt ρ) := []
theorem ls_slices_Index_Peg_0 {ρ : Type} : LpEnts Try.prog st_slices_Index_Peg (lp_slices_Index_Peg_0 (ρ := ρ)) := fun _ h => nomatch h
noncomputable def B_slices_Index_Peg_2 : Code := (loopsOf (bodyOf Try.f69)).getD 0 .skip
def ci_slices_Index_Peg_2 : CodS ((List (Int × Int)) × (Int × Int) × Int × Int) := ⟨[0, 6, 14, 16], (lCons (cSl 0 (.p (.i .i64) (.i .i64))) (lCons (cBox (lCons (cInt .i64) (lOne (cInt .i64)))) (lCons (cInt .i64) (lOne (cInt .i64)))))⟩
def xe_slices_Index_Peg_2 {ρ : Type} (K : X → St → Option ρ) : (Int ⊕ Unit) → Option ρ := (Sum.elim (fun x => K .ret (Go.VI.mk [(8, (.int .i64 x))])) (fun _ => K (.exit 0) (Go.VI.mk [(8, .undef)])))
noncomputable def lp_slices_Index_Peg_1 {ρ : Type} : List (LpEnt ρ) := ⟨2, B_slices_Index_Peg_2, lpC ci_slices_Index_Peg_2 xe_slices_Index_Peg_2 (fun v kn ke => slices_Index_Peg_R2 v.1 v.2.1 v.2.2.1 v.2.2.2 (fun a0 a1 a2 a3 => kn (a0, a1, a2, a3)) (fun a0 => ke (.inl a0)) (ke (.inr ())))⟩ :: lp_slices_Index_Peg_0
theorem ls_slices_Index_Peg_1 {ρ : Type} : LpEnts Try.prog st_slices_Index_Peg (lp_slices_Index_Peg_1 (ρ := ρ)) := loop_more (st_ok _ _ _) fs_slices_Index_Peg ls_slices_Index_Peg_0 (by kernel_rfl) (has_of (by kernel_rfl) has_nil) ci_slices_Index_Peg_2 [8] xe_slices_Index_Peg_2 (fun v kn ke => slices_Index_Peg_R2 v.1 v.2.1 v.2.2.1 v.2.2.2 (fun a0 a1 a2 a3 => kn (a0, a1, a2, a3)) (fun a0 => ke (.inl a0)) (ke (.inr ()))) (fun v => by kernel_rfl) (fun v KN KE => by kernel_rfl) 2
noncomputable def C_slices_Index_Peg {ρ : Type} : FnCl ρ := fnC 69 (lCons (cSl 0 (.p (.i .i64) (.i .i64))) (lOne (cAgg (lCons (cInt .i64) (lOne (cInt .i64)))))) lNil (fun (e : Int) => (((.int .i64 e) : PV), ([] : List PV))) (fun a o K => slices_Index_Peg a.1 a.2 (fun r0 => K r0))
theorem S_slices_Index_Peg {ρ : Type} : FnSound Try.prog (C_slices_Index_Peg (ρ := ρ)) := fn_sound (st_ok _ _ _) fs_slices_Index_Peg ls_slices_Index_Peg_1 (by kernel_rfl) (fn := Try.f69) (by kernel_rfl) (by kernel_rfl) (has_of (by kernel_rfl) (has_cons (c := B_slices_Index_Peg_2) 0 (by kernel_rfl) has_nil)) _ _ _ _ (fun a => by kernel_rfl) (fun a o K => by kernel_rfl)
abbrev st_slices_Contains_Peg : Sta := stOf [] [] 9
noncomputable def fns_slices_Contains_Peg {ρ : Type} : List (FnCl ρ) := [C_slices_Index_Peg]
theorem fs_slices_Contains_Peg {ρ : Type} : ∀ c ∈ fns_slices_Contains_Peg (ρ := ρ), FnSound Try.prog c := (fs_cons S_slices_Index_Peg fs_nil)
noncomputable def lp_slices_Contains_Peg_0 {ρ : Type} : List (LpEnt ρ) := []
theorem ls_slices_Contains_Peg_0 {ρ : Type} : LpEnts Try.prog st_slices_Contains_Peg (lp_slices_Contains_Peg_0 (ρ := ρ)) := fun _ h => nomatch h
noncomputable def C_slices_Contains_Peg {ρ : Type} : FnCl ρ := fnC 44 (lCons (cSl 0 (.p (.i .i64) (.i .i64))) (lOne (cAgg (lCons (cInt .i64) (lOne (cInt .i64)))))) lNil (fun (e : Bool) => (((.bool e) : PV), ([] : List PV))) (fun a o K => slices_Contains_Peg a.1 a.2 (fun r0 => K r0))
theorem S_slices_Contains_Peg {ρ : Type} : FnSound Try.prog (C_slices_Contains_Peg (ρ := ρ)) := fn_sound (st_ok _ _ _) fs_slices_Contains_Peg ls_slices_Contains_Peg_0 (by kernel_rfl) (fn := Try.f44) (by kernel_rfl) (by kernel_rfl) (has_of (by kernel_rfl) has_nil) _ _ _ _ (fun a => by kernel_rfl) (fun a o K => by kernel_rfl)
abbrev st_impl_at : Sta := stOf [] [] 18
noncomputable def fns_impl_at {ρ : Type} : List (FnCl ρ) := []
theorem fs_impl_at {ρ : Type} : ∀ c ∈ fns_impl_at (ρ := ρ), FnSound Try.prog c := fs_nil
noncomputable def lp_impl_at_0 {ρ : Type} : List (LpEnt ρ) := []
theorem ls_impl_at_0 {ρ : Type} : LpEnts Try.prog st_impl_at (lp_impl_at_0 (ρ := ρ)) := fun _ h => nomatch h
noncomputable def C_impl_at {ρ : Type} : FnCl ρ := fnC 46 (lCons (cSl 0 (.p (.i .i64) (.i .i64))) (lOne (cInt .i64))) lNil (fun (e : Int × Int) => (((.agg [(.int .i64 e.1), (.int .i64 e.2)]) : PV), ([] : List PV))) (fun a o K => impl_at a.1 a.2 (fun r0 => K r0))
theorem S_impl_at {ρ : Type} : FnSound Try.prog (C_impl_at (ρ := ρ)) := fn_sound (st_ok _ _ _) fs_impl_at ls_impl_at_0 (by kernel_rfl) (fn := Try.f46) (by kernel_rfl) (by kernel_rfl) (has_of (by kernel_rfl) has_nil) _ _ _ _ (fun a => by kernel_rfl) (fun a o K => by kernel_rfl)
abbrev st_impl_Peg_less : Sta := stOf [] [] 16
noncomputable def fns_impl_Peg_less {ρ : Type} : List (FnCl ρ) := []
theorem fs_impl_Peg_less {ρ : Type} : ∀ c ∈ fns_impl_Peg_less (ρ := ρ), FnSound Try.prog c := fs_nil
noncomputable def lp_impl_Peg_less_0 {ρ : Type} : List (LpEnt ρ) := []
theorem ls_impl_Peg_less_0 {ρ : Type} : LpEnts Try.prog st_impl_Peg_less (lp_impl_Peg_less_0 (ρ := ρ)) := fun _ h => nomatch h
noncomputable def C_impl_Peg_less {ρ : Type} : FnCl ρ := fnC 71 (lCons (cAgg (lCons (cInt .i64) (lOne (cInt .i64)))) (lOne (cAgg (lCons (cInt .i64) (lOne (cInt .i64)))))) lNil (fun (e : Int × Int) => (((.agg [(.int .i64 e.1), (.int .i64 e.2)]) : PV), ([] : List PV))) (fun a o K => impl_Peg_less a.1 a.2 (fun r0 => K r0))
theorem S_impl_Peg_less {ρ : Type} : FnSound Try.prog (C_impl_Peg_less (ρ := ρ)) := fn_sound (st_ok _ _ _) fs_impl_Peg_less ls_impl_Peg_less_0 (by kernel_rfl) (fn := Try.f71) (by kernel_rfl) (by kernel_rfl) (has_of (by kernel_rfl) has_nil) _ _ _ _ (fun a => by kernel_rfl) (fun a o K => by kernel_rfl)
abbrev st_impl_cross : Sta := stOf [] [] 16
noncomputable def fns_impl_cross {ρ : Type} : List (FnCl ρ) := []
theorem fs_impl_cross {ρ : Type} : ∀ c ∈ fns_impl_cross (ρ := ρ), FnSound Try.prog c := fs_nil
noncomputable def lp_impl_cross_0 {ρ : Type} : List (LpEnt ρ) := []
theorem ls_impl_cross_0 {ρ : Type} : LpEnts Try.prog st_impl_cross (lp_impl_cross_0 (ρ := ρ)) := fun _ h => nomatch h
noncomputable def C_impl_cross {ρ : Type} : FnCl ρ := fnC 70 (lCons (cAgg (lCons (cInt .i64) (lOne (cInt .i64)))) (lOne (cAgg (lCons (cInt .i64) (lOne (cInt .i64)))))) lNil (fun (e : Int) => (((.int .i64 e) : PV), ([] : List PV))) (fun a o K => impl_cross a.1 a.2 (fun r0 => K r0))
theorem S_impl_cross {ρ : Type} : FnSound Try.prog (C_impl_cross (ρ := ρ)) := fn_sound (st_ok _ _ _) fs_impl_cross ls_impl_cross_0 (by kernel_rfl) (fn := Try.f70) (by kernel_rfl) (by kernel_rfl) (has_of (by kernel_rfl) has_nil) _ _ _ _ (fun a => by kernel_rfl) (fun a o K => by kernel_rfl)
abbrev st_impl_turn : Sta := stOf [] [] 14
noncomputable def fns_impl_turn {ρ : Type} : List (FnCl ρ) := [C_impl_Peg_less, C_impl_cross]
theorem fs_impl_turn {ρ : Type} : ∀ c ∈ fns_impl_turn (ρ := ρ), FnSound Try.prog c := (fs_cons S_impl_Peg_less (fs_cons S_impl_cross fs_nil))
noncomputable def lp_impl_turn_0 {ρ : Type} : List (LpEnt ρ) := []
theorem ls_impl_turn_0 {ρ : Type} : LpEnts Try.prog st_impl_turn (lp_impl_turn_0 (ρ := ρ)) := fun _ h => nomatch h
noncomputable def C_impl_turn {ρ : Type} : FnCl ρ := fnC 45 (lCons (cAgg (lCons (cInt .i64) (lOne (cInt .i64)))) (lCons (cAgg (lCons (cInt .i64) (lOne (cInt .i64)))) (lOne (cAgg (lCons (cInt .i64) (lOne (cInt .i64))))))) lNil (fun (e : Int) => (((.int .i64 e) : PV), ([] : List PV))) (fun a o K => impl_turn a.1 a.2.1 a.2.2 (fun r0 => K r0))
theorem S_impl_turn {ρ : Type} : FnSound Try.prog (C_impl_turn (ρ := ρ)) := fn_sound (st_ok _ _ _) fs_impl_turn ls_impl_turn_0 (by kernel_rfl) (fn := Try.f45) (by kernel_rfl) (by kernel_rfl) (has_of (by kernel_rfl) has_nil) _ _ _ _ (fun a => by kernel_rfl) (fun a o K => by kernel_rfl)
abbrev st_impl_sign : Sta := stOf [] [] 6
noncomputable def fns_impl_sign {ρ : Type} : List (FnCl ρ) := []
theorem fs_impl_sign {ρ : Type} : ∀ c ∈ fns_impl_sign (ρ := ρ), FnSound Try.prog c := fs_nil
noncomputable def lp_impl_sign_0 {ρ : Type} : List (LpEnt ρ) := []
theorem ls_impl_sign_0 {ρ : Type} : LpEnts Try.prog st_impl_sign (lp_impl_sign_0 (ρ := ρ)) := fun _ h => nomatch h
noncomputable def C_impl_sign {ρ : Type} : FnCl ρ := fnC 72 (lOne (cInt .i64)) lNil (fun (e : Int) => (((.int .i64 e) : PV), ([] : List PV))) (fun a o K => impl_sign a (fun r0 => K r0))
theorem S_impl_sign {ρ : Type} : FnSound Try.prog (C_impl_sign (ρ := ρ)) := fn_sound (st_ok _ _ _) fs_impl_sign ls_impl_sign_0 (by kernel_rfl) (fn := Try.f72) (by kernel_rfl) (by kernel_rfl) (has_of (by kernel_rfl) has_nil) _ _ _ _ (fun a => by kernel_rfl) (fun a o K => by kernel_rfl)
abbrev st_impl_isOn : Sta := stOf [] [] 42
noncomputable def fns_impl_isOn {ρ : Type} : List (FnCl ρ) := [C_impl_turn, C_impl_within]
theorem fs_impl_isOn {ρ : Type} : ∀ c ∈ fns_impl_isOn (ρ := ρ), FnSound Try.prog c := (fs_cons S_impl_turn (fs_cons S_impl_within fs_nil))
noncomputable def lp_impl_isOn_0 {ρ : Type} : List (LpEnt ρ) := []
theorem ls_impl_isOn_0 {ρ : Type} : LpEnts Try.prog st_impl_isOn (lp_impl_isOn_0 (ρ := ρ)) := fun _ h => nomatch h
noncomputable def C_impl_isOn {ρ : Type} : FnCl ρ := fnC 73 (lCons (cAgg (lCons (cInt .i64) (lOne (cInt .i64)))) (lCons (cAgg (lCons (cInt .i64) (lOne (cInt .i64)))) (lOne (cAgg (lCons (cInt .i64) (lOne (cInt .i64))))))) lNil (fun (e : Bool) => (((.bool e) : PV), ([] : List PV))) (fun a o K => impl_isOn a.1 a.2.1 a.2.2 (fun r0 => K r0))
theorem S_impl_isOn {ρ : Type} : FnSound Try.prog (C_impl_isOn (ρ := ρ)) := fn_sound (st_ok _ _ _) fs_impl_isOn ls_impl_isOn_0 (by kernel_rfl) (fn := Try.f73) (by kernel_rfl) (by kernel_rfl) (has_of (by kernel_rfl) has_nil) _ _ _ _ (fun a => by kernel_rfl) (fun a o K => by kernel_rfl)
abbrev st_impl_meet : Sta := stOf [] [] 57
noncomputable def fns_impl_meet {ρ : Type} : List (FnCl ρ) := [C_impl_turn, C_impl_sign, C_impl_isOn]
theorem fs_impl_meet {ρ : Type} : ∀ c ∈ fns_impl_meet (ρ := ρ), FnSound Try.prog c := (fs_cons S_impl_turn (fs_cons S_impl_sign (fs_cons S_impl_isOn fs_nil)))
noncomputable def lp_impl_meet_0 {ρ : Type} : List (LpEnt ρ) := []
theorem ls_impl_meet_0 {ρ : Type} : LpEnts Try.prog st_impl_meet (lp_impl_meet_0 (ρ := ρ)) := fun _ h => nomatch h
noncomputable def C_impl_meet {ρ : Type} : FnCl ρ := fnC 47 (lCons (cAgg (lCons (cInt .i64) (lOne (cInt .i64)))) (lCons (cAgg (lCons (cInt .i64) (lOne (cInt .i64)))) (lCons (cAgg (lCons (cInt .i64) (lOne (cInt .i64)))) (lOne (cAgg (lCons (cInt .i64) (lOne (cInt .i64)))))))) lNil (fun (e : Bool) => (((.bool e) : PV), ([] : List PV))) (fun a o K => impl_meet a.1 a.2.1 a.2.2.1 a.2.2.2 (fun r0 => K r0))
theorem S_impl_meet {ρ : Type} : FnSound Try.prog (C_impl_meet (ρ := ρ)) := fn_sound (st_ok _ _ _) fs_impl_meet ls_impl_meet_0 (by kernel_rfl) (fn := Try.f47) (by kernel_rfl) (by kernel_rfl) (has_of (by kernel_rfl) has_nil) _ _ _ _ (fun a => by kernel_rfl) (fun a o K => by kernel_rfl)
abbrev st_impl_IsPolygon : Sta := stOf [] [] 77
noncomputable def fns_impl_IsPolygon {ρ : Type} : List (FnCl ρ) := [C_impl_within, C_impl_arePegs, C_slices_Contains_Peg, C_impl_at, C_impl_turn, C_impl_meet]
theorem fs_impl_IsPolygon {ρ : Type} : ∀ c ∈ fns_impl_IsPolygon (ρ := ρ), FnSound Try.prog c := (fs_cons S_impl_within (fs_cons S_impl_arePegs (fs_cons S_slices_Contains_Peg (fs_cons S_impl_at (fs_cons S_impl_turn (fs_cons S_impl_meet fs_nil))))))
noncomputable def lp_impl_IsPolygon_0 {ρ : Type} : List (LpEnt ρ) := []
theorem ls_impl_IsPolygon_0 {ρ : Type} : LpEnts Try.prog st_impl_IsPolygon (lp_impl_IsPolygon_0 (ρ := ρ)) := fun _ h => nomatch h
noncomputable def B_impl_IsPolygon_5 : Code := (loopsOf (bodyOf Try.f24)).getD 0 .skip
noncomputable def B_impl_IsPolygon_10 : Code := (loopsOf B_impl_IsPolygon_5).getD 0 .skip
def ci_impl_IsPolygon_10 : CodS ((List (Int × Int)) × Int × Int × (Int × Int) × (List (Int × Int)) × Int × Int × Int × Int) := ⟨[0, 6, 8, 10, 34, 36, 38, 84, 86], (lCons (cSl 0 (.p (.i .i64) (.i .i64))) (lCons (cInt .i64) (lCons (cInt .i64) (lCons (cBox (lCons (cInt .i64) (lOne (cInt .i64)))) (lCons (cSl 0 (.p (.i .i64) (.i .i64))) (lCons (cInt .i64) (lCons (cInt .i64) (lCons (cInt .i64) (lOne (cInt .i64))))))))))⟩
def xe_impl_IsPolygon_10 {ρ : Type} (K : X → St → Option ρ) : (((List (Int × Int)) × Bool × Int × (List (Int × Int)) × Int × Int) ⊕ ((List (Int × Int)) × Int × (List (Int × Int)) × Int × Int)) → Option ρ := (Sum.elim (fun x => K .ret (Go.VI.mk [(0, (.sl 0 (.p (.i .i64) (.i .i64)) x.1)), (4, (.bool x.2.1)), (6, (.int .i64 x.2.2.1)), (34, (.sl 0 (.p (.i .i64) (.i .i64)) x.2.2.2.1)), (36, (.int .i64 x.2.2.2.2.1)), (38, (.int .i64 x.2.2.2.2.2))])) (fun x => K (.exit 2) (Go.VI.mk [(0, (.sl 0 (.p (.i .i64) (.i .i64)) x.1)), (4, .undef), (6, (.int .i64 x.2.1)), (34, (.sl 0 (.p (.i .i64) (.i .i64)) x.2.2.1)), (36, (.int .i64 x.2.2.2.1)), (38, (.int .i64 x.2.2.2.2))])))
noncomputable def lp_impl_IsPolygon_1 {ρ : Type} : List (LpEnt ρ) := ⟨10, B_impl_IsPolygon_10, lpC ci_impl_IsPolygon_10 xe_impl_IsPolygon_10 (fun v kn ke => impl_IsPolygon_R10 v.1 v.2.1 v.2.2.1 v.2.2.2.1 v.2.2.2.2.1 v.2.2.2.2.2.1 v.2.2.2.2.2.2.1 v.2.2.2.2.2.2.2.1 v.2.2.2.2.2.2.2.2 (fun a0 a1 a2 a3 a4 a5 a6 a7 a8 => kn (a0, a1, a2, a3, a4, a5, a6, a7, a8)) (fun a0 a1 a2 a3 a4 a5 => ke (.inl (a0, a1, a2, a3, a4, a5))) (fun a0 a1 a2 a3 a4 => ke (.inr (a0, a1, a2, a3, a4))))⟩ :: lp_impl_IsPolygon_0
theorem ls_impl_IsPolygon_1 {ρ : Type} : LpEnts Try.prog st_impl_IsPolygon (lp_impl_IsPolygon_1 (ρ := ρ)) := loop_more (st_ok _ _ _) fs_impl_IsPolygon ls_impl_IsPolygon_0 (by kernel_rfl) (has_of (by kernel_rfl) has_nil) ci_impl_IsPolygon_10 [0, 4, 6, 34, 36, 38] xe_impl_IsPolygon_10 (fun v kn ke => impl_IsPolygon_R10 v.1 v.2.1 v.2.2.1 v.2.2.2.1 v.2.2.2.2.1 v.2.2.2.2.2.1 v.2.2.2.2.2.2.1 v.2.2.2.2.2.2.2.1 v.2.2.2.2.2.2.2.2 (fun a0 a1 a2 a3 a4 a5 a6 a7 a8 => kn (a0, a1, a2, a3, a4, a5, a6, a7, a8)) (fun a0 a1 a2 a3 a4 a5 => ke (.inl (a0, a1, a2, a3, a4, a5))) (fun a0 a1 a2 a3 a4 => ke (.inr (a0, a1, a2, a3, a4)))) (fun v => by kernel_rfl) (fun v KN KE => by kernel_rfl) 10
def ci_impl_IsPolygon_5 : CodS ((List (Int × Int)) × Int × (List (Int × Int)) × Int × Int) := ⟨[0, 6, 34, 36, 38], (lCons (cSl 0 (.p (.i .i64) (.i .i64))) (lCons (cInt .i64) (lCons (cSl 0 (.p (.i .i64) (.i .i64))) (lCons (cInt .i64) (lOne (cInt .i64))))))⟩
def xe_impl_IsPolygon_5 {ρ : Type} (K : X → St → Option ρ) : (Bool ⊕ Unit) → Option ρ := (Sum.elim (fun x => K .ret (Go.VI.mk [(4, (.bool x))])) (fun _ => K (.exit 0) (Go.VI.mk [(4, .undef)])))
noncomputable def lp_impl_IsPolygon_2 {ρ : Type} : List (LpEnt ρ) := ⟨5, B_impl_IsPolygon_5, lpC ci_impl_IsPolygon_5 xe_impl_IsPolygon_5 (fun v kn ke => impl_IsPolygon_R5 v.1 v.2.1 v.2.2.1 v.2.2.2.1 v.2.2.2.2 (fun a0 a1 a2 a3 a4 => kn (a0, a1, a2, a3, a4)) (fun a0 => ke (.inl a0)) (ke (.inr ())))⟩ :: lp_impl_IsPolygon_1
theorem ls_impl_IsPolygon_2 {ρ : Type} : LpEnts Try.prog st_impl_IsPolygon (lp_impl_IsPolygon_2 (ρ := ρ)) := loop_more (st_ok _ _ _) fs_impl_IsPolygon ls_impl_IsPolygon_1 (by kernel_rfl) (has_of (by kernel_rfl) (has_cons (c := B_impl_IsPolygon_10) 0 (by kernel_rfl) has_nil)) ci_impl_IsPolygon_5 [4] xe_impl_IsPolygon_5 (fun v kn ke => impl_IsPolygon_R5 v.1 v.2.1 v.2.2.1 v.2.2.2.1 v.2.2.2.2 (fun a0 a1 a2 a3 a4 => kn (a0, a1, a2, a3, a4)) (fun a0 => ke (.inl a0)) (ke (.inr ()))) (fun v => by kernel_rfl) (fun v KN KE => by kernel_rfl) 5
noncomputable def C_impl_IsPolygon {ρ : Type} : FnCl ρ := fnC 24 (lOne (cSl 0 (.p (.i .i64) (.i .i64)))) lNil (fun (e : Bool) => (((.bool e) : PV), ([] : List PV))) (fun a o K => impl_IsPolygon a (fun r0 => K r0))
theorem S_impl_IsPolygon {ρ : Type} : FnSound Try.prog (C_impl_IsPolygon (ρ := ρ)) := fn_sound (st_ok _ _ _) fs_impl_IsPolygon ls_impl_IsPolygon_2 (by kernel_rfl) (fn := Try.f24) (by kernel_rfl) (by kernel_rfl) (has_of (by kernel_rfl) (has_cons (c := B_impl_IsPolygon_5) 0 (by kernel_rfl) has_nil)) _ _ _ _ (fun a => by kernel_rfl) (fun a o K => by kernel_rfl)
abbrev st_impl_value : Sta := stOf [] [] 16
noncomputable def fns_impl_value {ρ : Type} : List (FnCl ρ) := []
theorem fs_impl_value {ρ : Type} : ∀ c ∈ fns_impl_value (ρ := ρ), FnSound Try.prog c := fs_nil
noncomputable def lp_impl_value_0 {ρ : Type} : List (LpEnt ρ) := []
theorem ls_impl_value_0 {ρ : Type} : LpEnts Try.prog st_impl_value (lp_impl_value_0 (ρ := ρ)) := fun _ h => nomatch h
noncomputable def C_impl_value {ρ : Type} : FnCl ρ := fnC 87 (lCons (cAgg (lCons (cInt .i64) (lOne (cInt .i64)))) (lOne (cAgg (lCons (cInt .i64) (lOne (cInt .i64)))))) lNil (fun (e : Int) => (((.int .i64 e) : PV), ([] : List PV))) (fun a o K => impl_value a.1 a.2 (fun r0 => K r0))
theorem S_impl_value {ρ : Type} : FnSound Try.prog (C_impl_value (ρ := ρ)) := fn_sound (st_ok _ _ _) fs_impl_value ls_impl_value_0 (by kernel_rfl) (fn := Try.f87) (by kernel_rfl) (by kernel_rfl) (has_of (by kernel_rfl) has_nil) _ _ _ _ (fun a => by kernel_rfl) (fun a o K => by kernel_rfl)
abbrev st_impl_extent : Sta := stOf [] [] 35
noncomputable def fns_impl_extent {ρ : Type} : List (FnCl ρ) := [C_impl_value]
theorem fs_impl_extent {ρ : Type} : ∀ c ∈ fns_impl_extent (ρ := ρ), FnSound Try.prog c := (fs_cons S_impl_value fs_nil)
noncomputable def lp_impl_extent_0 {ρ : Type} : List (LpEnt ρ) := []
theorem ls_impl_extent_0 {ρ : Type} : LpEnts Try.prog st_impl_extent (lp_impl_extent_0 (ρ := ρ)) := fun _ h => nomatch h
noncomputable def B_impl_extent_4 : Code := (loopsOf (bodyOf Try.f76)).getD 0 .skip
def ci_impl_extent_4 : CodS ((Int × Int) × Int × Int × (List (Int × Int)) × Int × Int) := ⟨[6, 12, 14, 32, 34, 36], (lCons (cBox (lCons (cInt .i64) (lOne (cInt .i64)))) (lCons (cInt .i64) (lCons (cInt .i64) (lCons (cSl 0 (.p (.i .i64) (.i .i64))) (lCons (cInt .i64) (lOne (cInt .i64)))))))⟩
def xe_impl_extent_4 {ρ : Type} (K : X → St → Option ρ) : ((Int × Int)) → Option ρ := (fun x => K (.exit 0) (Go.VI.mk [(12, (.int .i64 x.1)), (14, (.int .i64 x.2))]))
noncomputable def lp_impl_extent_1 {ρ : Type} : List (LpEnt ρ) := ⟨4, B_impl_extent_4, lpC ci_impl_extent_4 xe_impl_extent_4 (fun v kn ke => impl_extent_R4 v.1 v.2.1 v.2.2.1 v.2.2.2.1 v.2.2.2.2.1 v.2.2.2.2.2 (fun a0 a1 a2 a3 a4 a5 => kn (a0, a1, a2, a3, a4, a5)) (fun a0 a1 => ke (a0, a1)))⟩ :: lp_impl_extent_0
theorem ls_impl_extent_1 {ρ : Type} : LpEnts Try.prog st_impl_extent (lp_impl_extent_1 (ρ := ρ)) := loop_more (st_ok _ _ _) fs_impl_extent ls_impl_extent_0 (by kernel_rfl) (has_of (by kernel_rfl) has_nil) ci_impl_extent_4 [12, 14] xe_impl_extent_4 (fun v kn ke => impl_extent_R4 v.1 v.2.1 v.2.2.1 v.2.2.2.1 v.2.2.2.2.1 v.2.2.2.2.2 (fun a0 a1 a2 a3 a4 a5 => kn (a0, a1, a2, a3, a4, a5)) (fun a0 a1 => ke (a0, a1))) (fun v => by kernel_rfl) (fun v KN KE => by kernel_rfl) 4
noncomputable def C_impl_extent {ρ : Type} : FnCl ρ := fnC 76 (lCons (cSl 0 (.p (.i .i64) (.i .i64))) (lOne (cAgg (lCons (cInt .i64) (lOne (cInt .i64)))))) lNil (fun (e : Int × Int) => (((.tup [(.int .i64 e.1), (.int .i64 e.2)]) : PV), ([] : List PV))) (fun a o K => impl_extent a.1 a.2 (fun r0 r1 => K (r0, r1)))
theorem S_impl_extent {ρ : Type} : FnSound Try.prog (C_impl_extent (ρ := ρ)) := fn_sound (st_ok _ _ _) fs_impl_extent ls_impl_extent_1 (by kernel_rfl) (fn := Try.f76) (by kernel_rfl) (by kernel_rfl) (has_of (by kernel_rfl) (has_cons (c := B_impl_extent_4) 0 (by kernel_rfl) has_nil)) _ _ _ _ (fun a => by kernel_rfl) (fun a o K => by kernel_rfl)
abbrev st_impl_width : Sta := stOf [(1, 3, 1)] [] 16
noncomputable def fns_impl_width {ρ : Type} : List (FnCl ρ) := [C_impl_extent]
theorem fs_impl_width {ρ : Type} : ∀ c ∈ fns_impl_width (ρ := ρ), FnSound Try.prog c := (fs_cons S_impl_extent fs_nil)
noncomputable def lp_impl_width_0 {ρ : Type} : List (LpEnt ρ) := []
theorem ls_impl_width_0 {ρ : Type} : LpEnts Try.prog st_impl_width (lp_impl_width_0 (ρ := ρ)) := fun _ h => nomatch h
noncomputable def C_impl_width {ρ : Type} : FnCl ρ := fnC 49 (lCons (cSl 0 (.p (.i .i64) (.i .i64))) (lOne (cAgg (lCons (cInt .i64) (lOne (cInt .i64)))))) lNil (fun (e : Int) => (((.int .i64 e) : PV), ([] : List PV))) (fun a o K => impl_width a.1 a.2 (fun r0 => K r0))
theorem S_impl_width {ρ : Type} : FnSound Try.prog (C_impl_width (ρ := ρ)) := fn_sound (st_ok _ _ _) fs_impl_width ls_impl_width_0 (by kernel_rfl) (fn := Try.f49) (by kernel_rfl) (by kernel_rfl) (has_of (by kernel_rfl) has_nil) _ _ _ _ (fun a => by kernel_rfl) (fun a o K => by kernel_rfl)
abbrev st_impl_size : Sta := stOf [] [] 7
noncomputable def fns_impl_size {ρ : Type} : List (FnCl ρ) := []
theorem fs_impl_size {ρ : Type} : ∀ c ∈ fns_impl_size (ρ := ρ), FnSound Try.prog c := fs_nil
noncomputable def lp_impl_size_0 {ρ : Type} : List (LpEnt ρ) := []
theorem ls_impl_size_0 {ρ : Type} : LpEnts Try.prog st_impl_size (lp_impl_size_0 (ρ := ρ)) := fun _ h => nomatch h
noncomputable def C_impl_size {ρ : Type} : FnCl ρ := fnC 82 (lOne (cInt .i64)) lNil (fun (e : Int) => (((.int .i64 e) : PV), ([] : List PV))) (fun a o K => impl_size a (fun r0 => K r0))
theorem S_impl_size {ρ : Type} : FnSound Try.prog (C_impl_size (ρ := ρ)) := fn_sound (st_ok _ _ _) fs_impl_size ls_impl_size_0 (by kernel_rfl) (fn := Try.f82) (by kernel_rfl) (by kernel_rfl) (has_of (by kernel_rfl) has_nil) _ _ _ _ (fun a => by kernel_rfl) (fun a o K => by kernel_rfl)
abbrev st_impl_divisor : Sta := stOf [] [] 13
noncomputable def fns_impl_divisor {ρ : Type} : List (FnCl ρ) := [C_impl_size]
theorem fs_impl_divisor {ρ : Type} : ∀ c ∈ fns_impl_divisor (ρ := ρ), FnSound Try.prog c := (fs_cons S_impl_size fs_nil)
noncomputable def lp_impl_divisor_0 {ρ : Type} : List (LpEnt ρ) := []
theorem ls_impl_divisor_0 {ρ : Type} : LpEnts Try.prog st_impl_divisor (lp_impl_divisor_0 (ρ := ρ)) := fun _ h => nomatch h
noncomputable def B_impl_divisor_1 : Code := (loopsOf (bodyOf Try.f74)).getD 0 .skip
def ci_impl_divisor_1 : CodS (Int × Int) := ⟨[0, 2], (lCons (cInt .i64) (lOne (cInt .i64)))⟩
def xe_impl_divisor_1 {ρ : Type} (K : X → St → Option ρ) : Int → Option ρ := (fun x => K (.exit 0) (Go.VI.mk [(0, (.int .i64 x))]))
noncomputable def lp_impl_divisor_1 {ρ : Type} : List (LpEnt ρ) := ⟨1, B_impl_divisor_1, lpC ci_impl_divisor_1 xe_impl_divisor_1 (fun v kn ke => impl_divisor_R1 v.1 v.2 (fun a0 a1 => kn (a0, a1)) (fun a0 => ke a0))⟩ :: lp_impl_divisor_0
theorem ls_impl_divisor_1 {ρ : Type} : LpEnts Try.prog st_impl_divisor (lp_impl_divisor_1 (ρ := ρ)) := loop_more (st_ok _ _ _) fs_impl_divisor ls_impl_divisor_0 (by kernel_rfl) (has_of (by kernel_rfl) has_nil) ci_impl_divisor_1 [0] xe_impl_divisor_1 (fun v kn ke => impl_divisor_R1 v.1 v.2 (fun a0 a1 => kn (a0, a1)) (fun a0 => ke a0)) (fun v => by kernel_rfl) (fun v KN KE => by kernel_rfl) 1
noncomputable def C_impl_divisor {ρ : Type} : FnCl ρ := fnC 74 (lCons (cInt .i64) (lOne (cInt .i64))) lNil (fun (e : Int) => (((.int .i64 e) : PV), ([] : List PV))) (fun a o K => impl_divisor a.1 a.2 (fun r0 => K r0))
theorem S_impl_divisor {ρ : Type} : FnSound Try.prog (C_impl_divisor (ρ := ρ)) := fn_sound (st_ok _ _ _) fs_impl_divisor ls_impl_divisor_1 (by kernel_rfl) (fn := Try.f74) (by kernel_rfl) (by kernel_rfl) (has_of (by kernel_rfl) (has_cons (c := B_impl_divisor_1) 0 (by kernel_rfl) has_nil)) _ _ _ _ (fun a => by kernel_rfl) (fun a o K => by kernel_rfl)
abbrev st_slices_Clone_Peg_nil : Sta := stOf [] [] 8
noncomputable def fns_slices_Clone_Peg_nil {ρ : Type} : List (FnCl ρ) := []
theorem fs_slices_Clone_Peg_nil {ρ : Type} : ∀ c ∈ fns_slices_Clone_Peg_nil (ρ := ρ), FnSound Try.prog c := fs_nil
noncomputable def lp_slices_Clone_Peg_nil_0 {ρ : Type} : List (LpEnt ρ) := []
theorem ls_slices_Clone_Peg_nil_0 {ρ : Type} : LpEnts Try.prog st_slices_Clone_Peg_nil (lp_slices_Clone_Peg_nil_0 (ρ := ρ)) := fun _ h => nomatch h
noncomputable def C_slices_Clone_Peg_nil {ρ : Type} : FnCl ρ := fnC 84 (lOne (cNsl true (.p (.i .i64) (.i .i64)))) lNil (fun (e : List (Int × Int)) => (((.sl 1 (.p (.i .i64) (.i .i64)) e) : PV), ([] : List PV))) (fun a o K => slices_Clone_Peg_nil a (fun r0 => K r0))
theorem S_slices_Clone_Peg_nil {ρ : Type} : FnSound Try.prog (C_slices_Clone_Peg_nil (ρ := ρ)) := fn_sound (st_ok _ _ _) fs_slices_Clone_Peg_nil ls_slices_Clone_Peg_nil_0 (by kernel_rfl) (fn := Try.f84) (by kernel_rfl) (by kernel_rfl) (has_of (by kernel_rfl) has_nil) _ _ _ _ (fun a => by kernel_rfl) (fun a o K => by kernel_rfl)
abbrev st_slices_Clone_Peg_some : Sta := stOf [] [] 8
noncomputable def fns_slices_Clone_Peg_some {ρ : Type} : List (FnCl ρ) := []
theorem fs_slices_Clone_Peg_some {ρ : Type} : ∀ c ∈ fns_slices_Clone_Peg_some (ρ := ρ), FnSound Try.prog c := fs_nil
noncomputable def lp_slices_Clone_Peg_some_0 {ρ : Type} : List (LpEnt ρ) := []
theorem ls_slices_Clone_Peg_some_0 {ρ : Type} : LpEnts Try.prog st_slices_Clone_Peg_some (lp_slices_Clone_Peg_some_0 (ρ := ρ)) := fun _ h => nomatch h
noncomputable def C_slices_Clone_Peg_some {ρ : Type} : FnCl ρ := fnC 84 (lOne (cNsl false (.p (.i .i64) (.i .i64)))) lNil (fun (e : List (Int × Int)) => (((.sl 1 (.p (.i .i64) (.i .i64)) e) : PV), ([] : List PV))) (fun a o K => slices_Clone_Peg_some a (fun r0 => K r0))
theorem S_slices_Clone_Peg_some {ρ : Type} : FnSound Try.prog (C_slices_Clone_Peg_some (ρ := ρ)) := fn_sound (st_ok _ _ _) fs_slices_Clone_Peg_some ls_slices_Clone_Peg_some_0 (by kernel_rfl) (fn := Try.f84) (by kernel_rfl) (by kernel_rfl) (has_of (by kernel_rfl) has_nil) _ _ _ _ (fun a => by kernel_rfl) (fun a o K => by kernel_rfl)
noncomputable def C_slices_Clone_Peg {ρ : Type} : FnCl ρ := fnC 84 (lOne (cSl 0 (.p (.i .i64) (.i .i64)))) lNil (fun (e : List (Int × Int)) => ((.sl 1 (.p (.i .i64) (.i .i64)) e : PV), ([] : List PV))) (fun a o K => slices_Clone_Peg a (fun r0 => K r0))
theorem S_slices_Clone_Peg {ρ : Type} : FnSound Try.prog (C_slices_Clone_Peg (ρ := ρ)) := clone_sound S_slices_Clone_Peg_nil S_slices_Clone_Peg_some
abbrev st_cmp_isNaN_int : Sta := stOf [] [] 6
noncomputable def fns_cmp_isNaN_int {ρ : Type} : List (FnCl ρ) := []
theorem fs_cmp_isNaN_int {ρ : Type} : ∀ c ∈ fns_cmp_isNaN_int (ρ := ρ), FnSound Try.prog c := fs_nil
noncomputable def lp_cmp_isNaN_int_0 {ρ : Type} : List (LpEnt ρ) := []
theorem ls_cmp_isNaN_int_0 {ρ : Type} : LpEnts Try.prog st_cmp_isNaN_int (lp_cmp_isNaN_int_0 (ρ := ρ)) := fun _ h => nomatch h
noncomputable def C_cmp_isNaN_int {ρ : Type} : FnCl ρ := fnC 102 (lOne (cInt .i64)) lNil (fun (e : Bool) => (((.bool e) : PV), ([] : List PV))) (fun a o K => cmp_isNaN_int a (fun r0 => K r0))
theorem S_cmp_isNaN_int {ρ : Type} : FnSound Try.prog (C_cmp_isNaN_int (ρ := ρ)) := fn_sound (st_ok _ _ _) fs_cmp_isNaN_int ls_cmp_isNaN_int_0 (by kernel_rfl) (fn := Try.f102) (by kernel_rfl) (by kernel_rfl) (has_of (by kernel_rfl) has_nil) _ _ _ _ (fun a => by kernel_rfl) (fun a o K => by kernel_rfl)
abbrev st_cmp_Compare_int : Sta := stOf [] [] 20
noncomputable def fns_cmp_Compare_int {ρ : Type} : List (FnCl ρ) := [C_cmp_isNaN_int]
theorem fs_cmp_Compare_int {ρ : Type} : ∀ c ∈ fns_cmp_Compare_int (ρ := ρ), FnSound Try.prog c := (fs_cons S_cmp_isNaN_int fs_nil)
noncomputable def lp_cmp_Compare_int_0 {ρ : Type} : List (LpEnt ρ) := []
theorem ls_cmp_Compare_int_0 {ρ : Type} : LpEnts Try.prog st_cmp_Compare_int (lp_cmp_Compare_int_0 (ρ := ρ)) := fun _ h => nomatch h
noncomputable def C_cmp_Compare_int {ρ : Type} : FnCl ρ := fnC 91 (lCons (cInt .i64) (lOne (cInt .i64))) lNil (fun (e : Int) => (((.int .i64 e) : PV), ([] : List PV))) (fun a o K => cmp_Compare_int a.1 a.2 (fun r0 => K r0))
theorem S_cmp_Compare_int {ρ : Type} : FnSound Try.prog (C_cmp_Compare_int (ρ := ρ)) := fn_sound (st_ok _ _ _) fs_cmp_Compare_int ls_cmp_Compare_int_0 (by kernel_rfl) (fn := Try.f91) (by kernel_rfl) (by kernel_rfl) (has_of (by kernel_rfl) has_nil) _ _ _ _ (fun a => by kernel_rfl) (fun a o K => by kernel_rfl)
abbrev st_cmp_Or_int : Sta := stOf [] [] 18
noncomputable def fns_cmp_Or_int {ρ : Type} : List (FnCl ρ) := []
theorem fs_cmp_Or_int {ρ : Type} : ∀ c ∈ fns_cmp_Or_int (ρ := ρ), FnSound Try.prog c := fs_nil
noncomputable def lp_cmp_Or_int_0 {ρ : Type} : List (LpEnt ρ) := []
theorem ls_cmp_Or_int_0 {ρ : Type} : LpEnts Try.prog st_cmp_Or_int (lp_cmp_Or_int_0 (ρ := ρ)) := fun _ h => nomatch h
noncomputable def B_cmp_Or_int_3 : Code := (loopsOf (bodyOf Try.f90)).getD 0 .skip
def ci_cmp_Or_int_3 : CodS (Int × (List Int) × Int × Int) := ⟨[6, 12, 14, 16], (lCons (cInt .i64) (lCons (cSl 0 (.i .i64)) (lCons (cInt .i64) (lOne (cInt .i64)))))⟩
def xe_cmp_Or_int_3 {ρ : Type} (K : X → St → Option ρ) : ((Int × Int) ⊕ Int) → Option ρ := (Sum.elim (fun x => K .ret (Go.VI.mk [(4, (.int .i64 x.1)), (6, (.int .i64 x.2))])) (fun x => K (.exit 0) (Go.VI.mk [(4, .undef), (6, (.int .i64 x))])))
noncomputable def lp_cmp_Or_int_1 {ρ : Type} : List (LpEnt ρ) := ⟨3, B_cmp_Or_int_3, lpC ci_cmp_Or_int_3 xe_cmp_Or_int_3 (fun v kn ke => cmp_Or_int_R3 v.1 v.2.1 v.2.2.1 v.2.2.2 (fun a0 a1 a2 a3 => kn (a0, a1, a2, a3)) (fun a0 a1 => ke (.inl (a0, a1))) (fun a0 => ke (.inr a0)))⟩ :: lp_cmp_Or_int_0
theorem ls_cmp_Or_int_1 {ρ : Type} : LpEnts Try.prog st_cmp_Or_int (lp_cmp_Or_int_1 (ρ := ρ)) := loop_more (st_ok _ _ _) fs_cmp_Or_int ls_cmp_Or_int_0 (by kernel_rfl) (has_of (by kernel_rfl) has_nil) ci_cmp_Or_int_3 [4, 6] xe_cmp_Or_int_3 (fun v kn ke => cmp_Or_int_R3 v.1 v.2.1 v.2.2.1 v.2.2.2 (fun a0 a1 a2 a3 => kn (a0, a1, a2, a3)) (fun a0 a1 => ke (.inl (a0, a1))) (fun a0 => ke (.inr a0))) (fun v => by kernel_rfl) (fun v KN KE => by kernel_rfl) 3
noncomputable def C_cmp_Or_int {ρ : Type} : FnCl ρ := fnC 90 (lOne (cSl 0 (.i .i64))) lNil (fun (e : Int) => (((.int .i64 e) : PV), ([] : List PV))) (fun a o K => cmp_Or_int a (fun r0 => K r0))
theorem S_cmp_Or_int {ρ : Type} : FnSound Try.prog (C_cmp_Or_int (ρ := ρ)) := fn_sound (st_ok _ _ _) fs_cmp_Or_int ls_cmp_Or_int_1 (by kernel_rfl) (fn := Try.f90) (by kernel_rfl) (by kernel_rfl) (has_of (by kernel_rfl) (has_cons (c := B_cmp_Or_int_3) 0 (by kernel_rfl) has_nil)) _ _ _ _ (fun a => by kernel_rfl) (fun a o K => by kernel_rfl)
abbrev st_impl_comparePegs : Sta := stOf [] [] 17
noncomputable def fns_impl_comparePegs {ρ : Type} : List (FnCl ρ) := [C_cmp_Compare_int, C_cmp_Or_int]
theorem fs_impl_comparePegs {ρ : Type} : ∀ c ∈ fns_impl_comparePegs (ρ := ρ), FnSound Try.prog c := (fs_cons S_cmp_Compare_int (fs_cons S_cmp_Or_int fs_nil))
noncomputable def lp_impl_comparePegs_0 {ρ : Type} : List (LpEnt ρ) := []
theorem ls_impl_comparePegs_0 {ρ : Type} : LpEnts Try.prog st_impl_comparePegs (lp_impl_comparePegs_0 (ρ := ρ)) := fun _ h => nomatch h
noncomputable def C_impl_comparePegs {ρ : Type} : FnCl ρ := fnC 86 (lCons (cAgg (lCons (cInt .i64) (lOne (cInt .i64)))) (lOne (cAgg (lCons (cInt .i64) (lOne (cInt .i64)))))) lNil (fun (e : Int) => (((.int .i64 e) : PV), ([] : List PV))) (fun a o K => impl_comparePegs a.1 a.2 (fun r0 => K r0))
theorem S_impl_comparePegs {ρ : Type} : FnSound Try.prog (C_impl_comparePegs (ρ := ρ)) := fn_sound (st_ok _ _ _) fs_impl_comparePegs ls_impl_comparePegs_0 (by kernel_rfl) (fn := Try.f86) (by kernel_rfl) (by kernel_rfl) (has_of (by kernel_rfl) has_nil) _ _ _ _ (fun a => by kernel_rfl) (fun a o K => by kernel_rfl)
noncomputable def C_slices_SortFunc_Peg_at_comparePegs {ρ : Type} : FnCl ρ := fnC 85 (lSkip (cAls 1) (lOne (cClo 86 lNil))) (lOne (cSl 1 (.p (.i .i64) (.i .i64)))) (fun (e : List (Int × Int)) => ((.tup [] : PV), ([.sl 1 (.p (.i .i64) (.i .i64)) e] : List PV))) (fun a o K => slices_SortFunc_Peg_at_comparePegs o (fun r0 => K r0))
theorem S_slices_SortFunc_Peg_at_comparePegs {ρ : Type} : FnSound Try.prog (C_slices_SortFunc_Peg_at_comparePegs (ρ := ρ)) := @sort_sound Try.prog Try.sort85_ren ρ Try.sort85 (.i .i64) (.i .i64) (inferInstanceAs (Inhabited ((Int × Int)))) rfl Try.isAgg45 Try.sizeOf45 cf_impl_comparePegs swo_cf_impl_comparePegs 85 86 rfl (Go.Proofs.enters_of Try.func85 (by kernel_rfl) rfl) (Go.Proofs.enters_of Try.func86 (by kernel_rfl) rfl) (fun u v => FnSound.at (S_impl_comparePegs (ρ := PV × List PV)) (u, v) () (by show impl_comparePegs u v _ = _; rw [eq_cf_impl_comparePegs]))
abbrev st_impl_sorted : Sta := stOf [(3, 0, 1)] [(85, [2, 0])] 9
noncomputable def fns_impl_sorted {ρ : Type} : List (FnCl ρ) := [C_slices_Clone_Peg, C_slices_SortFunc_Peg_at_comparePegs]
theorem fs_impl_sorted {ρ : Type} : ∀ c ∈ fns_impl_sorted (ρ := ρ), FnSound Try.prog c := (fs_cons S_slices_Clone_Peg (fs_cons S_slices_SortFunc_Peg_at_comparePegs fs_nil))
noncomputable def lp_impl_sorted_0 {ρ : Type} : List (LpEnt ρ) := []
theorem ls_impl_sorted_0 {ρ : Type} : LpEnts Try.prog st_impl_sorted (lp_impl_sorted_0 (ρ := ρ)) := fun _ h => nomatch h
noncomputable def C_impl_sorted {ρ : Type} : FnCl ρ := fnC 75 (lOne (cSl 0 (.p (.i .i64) (.i .i64)))) lNil (fun (e : List (Int × Int)) => (((.sl 1 (.p (.i .i64) (.i .i64)) e) : PV), ([] : List PV))) (fun a o K => impl_sorted a (fun r0 => K r0))
theorem S_impl_sorted {ρ : Type} : FnSound Try.prog (C_impl_sorted (ρ := ρ)) := fn_sound (st_ok _ _ _) fs_impl_sorted ls_impl_sorted_0 (by kernel_rfl) (fn := Try.f75) (by kernel_rfl) (by kernel_rfl) (has_of (by kernel_rfl) has_nil) _ _ _ _ (fun a => by kernel_rfl) (fun a o K => by kernel_rfl)
abbrev st_impl_directions : Sta := stOf [(14, 0, 1), (15, 0, 1)] [] 115
noncomputable def fns_impl_directions {ρ : Type} : List (FnCl ρ) := [C_impl_Peg_less, C_impl_cross, C_impl_divisor, C_impl_width, C_impl_sorted]
theorem fs_impl_directions {ρ : Type} : ∀ c ∈ fns_impl_directions (ρ := ρ), FnSound Try.prog c := (fs_cons S_impl_Peg_less (fs_cons S_impl_cross (fs_cons S_impl_divisor (fs_cons S_impl_width (fs_cons S_impl_sorted fs_nil)))))
noncomputable def lp_impl_directions_0 {ρ : Type} : List (LpEnt ρ) := []
theorem ls_impl_directions_0 {ρ : Type} : LpEnts Try.prog st_impl_directions (lp_impl_directions_0 (ρ := ρ)) := fun _ h => nomatch h
noncomputable def B_impl_directions_5 : Code := (loopsOf (bodyOf Try.f48)).getD 0 .skip
noncomputable def B_impl_directions_8 : Code := (loopsOf B_impl_directions_5).getD 0 .skip
def ci_impl_directions_8 : CodS ((List (Int × Int)) × Int × (List (Int × Int)) × (Int × Int) × (Int × Int) × Int × Int × Int) := ⟨[0, 2, 10, 12, 14, 16, 18, 20], (lCons (cSl 0 (.p (.i .i64) (.i .i64))) (lCons (cInt .i64) (lCons (cSl 1 (.p (.i .i64) (.i .i64))) (lCons (cBox (lCons (cInt .i64) (lOne (cInt .i64)))) (lCons (cBox (lCons (cInt .i64) (lOne (cInt .i64)))) (lCons (cInt .i64) (lCons (cInt .i64) (lOne (cInt .i64)))))))))⟩
def xe_impl_directions_8 {ρ : Type} (K : X → St → Option ρ) : (((List (Int × Int)) × Int × (List (Int × Int)) × (Int × Int) × (Int × Int) × Int × Int)) → Option ρ := (fun x => K (.exit 2) (Go.VI.mk [(0, (.sl 0 (.p (.i .i64) (.i .i64)) x.1)), (2, (.int .i64 x.2.1)), (10, (.sl 1 (.p (.i .i64) (.i .i64)) x.2.2.1)), (12, (.box [(.int .i64 x.2.2.2.1.1), (.int .i64 x.2.2.2.1.2)])), (14, (.box [(.int .i64 x.2.2.2.2.1.1), (.int .i64 x.2.2.2.2.1.2)])), (16, (.int .i64 x.2.2.2.2.2.1)), (18, (.int .i64 x.2.2.2.2.2.2))]))
noncomputable def lp_impl_directions_1 {ρ : Type} : List (LpEnt ρ) := ⟨8, B_impl_directions_8, lpC ci_impl_directions_8 xe_impl_directions_8 (fun v kn ke => impl_directions_R8 v.1 v.2.1 v.2.2.1 v.2.2.2.1 v.2.2.2.2.1 v.2.2.2.2.2.1 v.2.2.2.2.2.2.1 v.2.2.2.2.2.2.2 (fun a0 a1 a2 a3 a4 a5 a6 a7 => kn (a0, a1, a2, a3, a4, a5, a6, a7)) (fun a0 a1 a2 a3 a4 a5 a6 => ke (a0, a1, a2, a3, a4, a5, a6)))⟩ :: lp_impl_directions_0
theorem ls_impl_directions_1 {ρ : Type} : LpEnts Try.prog st_impl_directions (lp_impl_directions_1 (ρ := ρ)) := loop_more (st_ok _ _ _) fs_impl_directions ls_impl_directions_0 (by kernel_rfl) (has_of (by kernel_rfl) has_nil) ci_impl_directions_8 [0, 2, 10, 12, 14, 16, 18] xe_impl_directions_8 (fun v kn ke => impl_directions_R8 v.1 v.2.1 v.2.2.1 v.2.2.2.1 v.2.2.2.2.1 v.2.2.2.2.2.1 v.2.2.2.2.2.2.1 v.2.2.2.2.2.2.2 (fun a0 a1 a2 a3 a4 a5 a6 a7 => kn (a0, a1, a2, a3, a4, a5, a6, a7)) (fun a0 a1 a2 a3 a4 a5 a6 => ke (a0, a1, a2, a3, a4, a5, a6))) (fun v => by kernel_rfl) (fun v KN KE => by kernel_rfl) 8
def ci_impl_directions_5 : CodS ((List (Int × Int)) × Int × (List (Int × Int)) × (Int × Int) × (Int × Int) × Int × Int) := ⟨[0, 2, 10, 12, 14, 16, 18], (lCons (cSl 0 (.p (.i .i64) (.i .i64))) (lCons (cInt .i64) (lCons (cSl 1 (.p (.i .i64) (.i .i64))) (lCons (cBox (lCons (cInt .i64) (lOne (cInt .i64)))) (lCons (cBox (lCons (cInt .i64) (lOne (cInt .i64)))) (lCons (cInt .i64) (lOne (cInt .i64))))))))⟩
def xe_impl_directions_5 {ρ : Type} (K : X → St → Option ρ) : (List (Int × Int)) → Option ρ := (fun x => K (.exit 0) (Go.VI.mk [(10, (.sl 1 (.p (.i .i64) (.i .i64)) x))]))
noncomputable def lp_impl_directions_2 {ρ : Type} : List (LpEnt ρ) := ⟨5, B_impl_directions_5, lpC ci_impl_directions_5 xe_impl_directions_5 (fun v kn ke => impl_directions_R5 v.1 v.2.1 v.2.2.1 v.2.2.2.1 v.2.2.2.2.1 v.2.2.2.2.2.1 v.2.2.2.2.2.2 (fun a0 a1 a2 a3 a4 a5 a6 => kn (a0, a1, a2, a3, a4, a5, a6)) (fun a0 => ke a0))⟩ :: lp_impl_directions_1
theorem ls_impl_directions_2 {ρ : Type} : LpEnts Try.prog st_impl_directions (lp_impl_directions_2 (ρ := ρ)) := loop_more (st_ok _ _ _) fs_impl_directions ls_impl_directions_1 (by kernel_rfl) (has_of (by kernel_rfl) (has_cons (c := B_impl_directions_8) 0 (by kernel_rfl) has_nil)) ci_impl_directions_5 [10] xe_impl_directions_5 (fun v kn ke => impl_directions_R5 v.1 v.2.1 v.2.2.1 v.2.2.2.1 v.2.2.2.2.1 v.2.2.2.2.2.1 v.2.2.2.2.2.2 (fun a0 a1 a2 a3 a4 a5 a6 => kn (a0, a1, a2, a3, a4, a5, a6)) (fun a0 => ke a0)) (fun v => by kernel_rfl) (fun v KN KE => by kernel_rfl) 5
noncomputable def C_impl_directions {ρ : Type} : FnCl ρ := fnC 48 (lCons (cSl 0 (.p (.i .i64) (.i .i64))) (lOne (cInt .i64))) lNil (fun (e : List (Int × Int)) => (((.sl 1 (.p (.i .i64) (.i .i64)) e) : PV), ([] : List PV))) (fun a o K => impl_directions a.1 a.2 (fun r0 => K r0))
theorem S_impl_directions {ρ : Type} : FnSound Try.prog (C_impl_directions (ρ := ρ)) := fn_sound (st_ok _ _ _) fs_impl_directions ls_impl_directions_2 (by kernel_rfl) (fn := Try.f48) (by kernel_rfl) (by kernel_rfl) (has_of (by kernel_rfl) (has_cons (c := B_impl_directions_5) 0 (by kernel_rfl) has_nil)) _ _ _ _ (fun a => by kernel_rfl) (fun a o K => by kernel_rfl)
end Go.Proofs.Ga

namespace Go.Proofs.Ga
open Go.VI
abbrev st_impl_least_1 : Sta := stOf [] [] 10
noncomputable def fns_impl_least_1 {ρ : Type} : List (FnCl ρ) := [C_impl_width]
theorem fs_impl_least_1 {ρ : Type} : ∀ c ∈ fns_impl_least_1 (ρ := ρ), FnSound Try.prog c := (fs_cons S_impl_width fs_nil)
noncomputable def lp_impl_least_1_0 {ρ : Type} : List (LpEnt ρ) := []
theorem ls_impl_least_1_0 {ρ : Type} : LpEnts Try.prog st_impl_least_1 (lp_impl_least_1_0 (ρ := ρ)) := fun _ h => nomatch h
noncomputable def C_impl_least_1 {ρ : Type} : FnCl ρ := fnC 51 (lCons (cAgg (lCons (cInt .i64) (lOne (cInt .i64)))) (lCons (cKel (.l (.p (.i .i64) (.i .i64))) 0) (lOne (cKel (.i .i64) 0)))) lNil (fun (e : Bool) => (((.bool e) : PV), ([] : List PV))) (fun a o K => impl_least_1 a.1 a.2.1 a.2.2 (fun r0 => K r0))
theorem S_impl_least_1 {ρ : Type} : FnSound Try.prog (C_impl_least_1 (ρ := ρ)) := fn_sound (st_ok _ _ _) fs_impl_least_1 ls_impl_least_1_0 (by kernel_rfl) (fn := Try.f51) (by kernel_rfl) (by kernel_rfl) (has_of (by kernel_rfl) has_nil) _ _ _ _ (fun a => by kernel_rfl) (fun a o K => by kernel_rfl)
abbrev st_slices_IndexFunc_Peg_at_least_1 : Sta := stOf [] [] 19
noncomputable def fns_slices_IndexFunc_Peg_at_least_1 {ρ : Type} : List (FnCl ρ) := [C_impl_least_1]
theorem fs_slices_IndexFunc_Peg_at_least_1 {ρ : Type} : ∀ c ∈ fns_slices_IndexFunc_Peg_at_least_1 (ρ := ρ), FnSound Try.prog c := (fs_cons S_impl_least_1 fs_nil)
noncomputable def lp_slices_IndexFunc_Peg_at_least_1_0 {ρ : Type} : List (LpEnt ρ) := []
theorem ls_slices_IndexFunc_Peg_at_least_1_0 {ρ : Type} : LpEnts Try.prog st_slices_IndexFunc_Peg_at_least_1 (lp_slices_IndexFunc_Peg_at_least_1_0 (ρ := ρ)) := fun _ h => nomatch h
noncomputable def B_slices_IndexFunc_Peg_at_least_1_2 : Code := (loopsOf (bodyOf Try.f77)).getD 0 .skip
def ci_slices_IndexFunc_Peg_at_least_1_2 : CodS ((List (Int × Int)) × ((List (Int × Int)) × Int) × Int × Int) := ⟨[0, 2, 14, 16], (lCons (cSl 0 (.p (.i .i64) (.i .i64))) (lCons (cClo 51 (lCons (cKel (.l (.p (.i .i64) (.i .i64))) 0) (lOne (cKel (.i .i64) 0)))) (lCons (cInt .i64) (lOne (cInt .i64)))))⟩
def xe_slices_IndexFunc_Peg_at_least_1_2 {ρ : Type} (K : X → St → Option ρ) : (Int ⊕ Unit) → Option ρ := (Sum.elim (fun x => K .ret (Go.VI.mk [(8, (.int .i64 x))])) (fun _ => K (.exit 0) (Go.VI.mk [(8, .undef)])))
noncomputable def lp_slices_IndexFunc_Peg_at_least_1_1 {ρ : Type} : List (LpEnt ρ) := ⟨2, B_slices_IndexFunc_Peg_at_least_1_2, lpC ci_slices_IndexFunc_Peg_at_least_1_2 xe_slices_IndexFunc_Peg_at_least_1_2 (fun v kn ke => slices_IndexFunc_Peg_at_least_1_R2 v.1 v.2.1 v.2.2.1 v.2.2.2 (fun a0 a1 a2 a3 => kn (a0, a1, a2, a3)) (fun a0 => ke (.inl a0)) (ke (.inr ())))⟩ :: lp_slices_IndexFunc_Peg_at_least_1_0
theorem ls_slices_IndexFunc_Peg_at_least_1_1 {ρ : Type} : LpEnts Try.prog st_slices_IndexFunc_Peg_at_least_1 (lp_slices_IndexFunc_Peg_at_least_1_1 (ρ := ρ)) := loop_more (st_ok _ _ _) fs_slices_IndexFunc_Peg_at_least_1 ls_slices_IndexFunc_Peg_at_least_1_0 (by kernel_rfl) (has_of (by kernel_rfl) has_nil) ci_slices_IndexFunc_Peg_at_least_1_2 [8] xe_slices_IndexFunc_Peg_at_least_1_2 (fun v kn ke => slices_IndexFunc_Peg_at_least_1_R2 v.1 v.2.1 v.2.2.1 v.2.2.2 (fun a0 a1 a2 a3 => kn (a0, a1, a2, a3)) (fun a0 => ke (.inl a0)) (ke (.inr ()))) (fun v => by kernel_rfl) (fun v KN KE => by kernel_rfl) 2
noncomputable def C_slices_IndexFunc_Peg_at_least_1 {ρ : Type} : FnCl ρ := fnC 77 (lCons (cSl 0 (.p (.i .i64) (.i .i64))) (lOne (cClo 51 (lCons (cKel (.l (.p (.i .i64) (.i .i64))) 0) (lOne (cKel (.i .i64) 0)))))) lNil (fun (e : Int) => (((.int .i64 e) : PV), ([] : List PV))) (fun a o K => slices_IndexFunc_Peg_at_least_1 a.1 a.2 (fun r0 => K r0))
theorem S_slices_IndexFunc_Peg_at_least_1 {ρ : Type} : FnSound Try.prog (C_slices_IndexFunc_Peg_at_least_1 (ρ := ρ)) := fn_sound (st_ok _ _ _) fs_slices_IndexFunc_Peg_at_least_1 ls_slices_IndexFunc_Peg_at_least_1_1 (by kernel_rfl) (fn := Try.f77) (by kernel_rfl) (by kernel_rfl) (has_of (by kernel_rfl) (has_cons (c := B_slices_IndexFunc_Peg_at_least_1_2) 0 (by kernel_rfl) has_nil)) _ _ _ _ (fun a => by kernel_rfl) (fun a o K => by kernel_rfl)
abbrev st_slices_DeleteFunc_Peg_at_least_1 : Sta := stOf [(3, 0, 1), (12, 0, 1)] [(77, [0, 3])] 42
noncomputable def fns_slices_DeleteFunc_Peg_at_least_1 {ρ : Type} : List (FnCl ρ) := [C_slices_IndexFunc_Peg_at_least_1, C_impl_least_1]
theorem fs_slices_DeleteFunc_Peg_at_least_1 {ρ : Type} : ∀ c ∈ fns_slices_DeleteFunc_Peg_at_least_1 (ρ := ρ), FnSound Try.prog c := (fs_cons S_slices_IndexFunc_Peg_at_least_1 (fs_cons S_impl_least_1 fs_nil))
noncomputable def lp_slices_DeleteFunc_Peg_at_least_1_0 {ρ : Type} : List (LpEnt ρ) := []
theorem ls_slices_DeleteFunc_Peg_at_least_1_0 {ρ : Type} : LpEnts Try.prog st_slices_DeleteFunc_Peg_at_least_1 (lp_slices_DeleteFunc_Peg_at_least_1_0 (ρ := ρ)) := fun _ h => nomatch h
noncomputable def B_slices_DeleteFunc_Peg_at_least_1_5 : Code := (loopsOf (bodyOf Try.f50)).getD 0 .skip
def ci_slices_DeleteFunc_Peg_at_least_1_5 : CodS ((List (Int × Int)) × ((List (Int × Int)) × Int) × Int × Int) := ⟨[0, 2, 10, 12], (lCons (cSl 1 (.p (.i .i64) (.i .i64))) (lCons (cClo 51 (lCons (cKel (.l (.p (.i .i64) (.i .i64))) 0) (lOne (cKel (.i .i64) 0)))) (lCons (cInt .i64) (lOne (cInt .i64)))))⟩
def xe_slices_DeleteFunc_Peg_at_least_1_5 {ρ : Type} (K : X → St → Option ρ) : (((List (Int × Int)) × Int)) → Option ρ := (fun x => K (.exit 0) (Go.VI.mk [(0, (.sl 1 (.p (.i .i64) (.i .i64)) x.1)), (10, (.int .i64 x.2))]))
noncomputable def lp_slices_DeleteFunc_Peg_at_least_1_1 {ρ : Type} : List (LpEnt ρ) := ⟨5, B_slices_DeleteFunc_Peg_at_least_1_5, lpC ci_slices_DeleteFunc_Peg_at_least_1_5 xe_slices_DeleteFunc_Peg_at_least_1_5 (fun v kn ke => slices_DeleteFunc_Peg_at_least_1_R5 v.1 v.2.1 v.2.2.1 v.2.2.2 (fun a0 a1 a2 a3 => kn (a0, a1, a2, a3)) (fun a0 a1 => ke (a0, a1)))⟩ :: lp_slices_DeleteFunc_Peg_at_least_1_0
theorem ls_slices_DeleteFunc_Peg_at_least_1_1 {ρ : Type} : LpEnts Try.prog st_slices_DeleteFunc_Peg_at_least_1 (lp_slices_DeleteFunc_Peg_at_least_1_1 (ρ := ρ)) := loop_more (st_ok _ _ _) fs_slices_DeleteFunc_Peg_at_least_1 ls_slices_DeleteFunc_Peg_at_least_1_0 (by kernel_rfl) (has_of (by kernel_rfl) has_nil) ci_slices_DeleteFunc_Peg_at_least_1_5 [0, 10] xe_slices_DeleteFunc_Peg_at_least_1_5 (fun v kn ke => slices_DeleteFunc_Peg_at_least_1_R5 v.1 v.2.1 v.2.2.1 v.2.2.2 (fun a0 a1 a2 a3 => kn (a0, a1, a2, a3)) (fun a0 a1 => ke (a0, a1))) (fun v => by kernel_rfl) (fun v KN KE => by kernel_rfl) 5
noncomputable def C_slices_DeleteFunc_Peg_at_least_1 {ρ : Type} : FnCl ρ := fnC 50 (lCons (cSl 1 (.p (.i .i64) (.i .i64))) (lOne (cClo 51 (lCons (cKel (.l (.p (.i .i64) (.i .i64))) 0) (lOne (cKel (.i .i64) 0)))))) lNil (fun (e : List (Int × Int)) => (((.sl 1 (.p (.i .i64) (.i .i64)) e) : PV), ([] : List PV))) (fun a o K => slices_DeleteFunc_Peg_at_least_1 a.1 a.2 (fun r0 => K r0))
theorem S_slices_DeleteFunc_Peg_at_least_1 {ρ : Type} : FnSound Try.prog (C_slices_DeleteFunc_Peg_at_least_1 (ρ := ρ)) := fn_sound (st_ok _ _ _) fs_slices_DeleteFunc_Peg_at_least_1 ls_slices_DeleteFunc_Peg_at_least_1_1 (by kernel_rfl) (fn := Try.f50) (by kernel_rfl) (by kernel_rfl) (has_of (by kernel_rfl) (has_cons (c := B_slices_DeleteFunc_Peg_at_least_1_5) 0 (by kernel_rfl) has_nil)) _ _ _ _ (fun a => by kernel_rfl) (fun a o K => by kernel_rfl)
abbrev st_impl_least : Sta := stOf [(8, 0, 1)] [(50, [1, 3])] 38
noncomputable def fns_impl_least {ρ : Type} : List (FnCl ρ) := [C_impl_width, C_impl_directions, C_slices_DeleteFunc_Peg_at_least_1]
theorem fs_impl_least {ρ : Type} : ∀ c ∈ fns_impl_least (ρ := ρ), FnSound Try.prog c := (fs_cons S_impl_width (fs_cons S_impl_directions (fs_cons S_slices_DeleteFunc_Peg_at_least_1 fs_nil)))
noncomputable def lp_impl_least_0 {ρ : Type} : List (LpEnt ρ) := []
theorem ls_impl_least_0 {ρ : Type} : LpEnts Try.prog st_impl_least (lp_impl_least_0 (ρ := ρ)) := fun _ h => nomatch h
noncomputable def B_impl_least_4 : Code := (loopsOf (bodyOf Try.f25)).getD 0 .skip
def ci_impl_least_4 : CodS ((List (Int × Int)) × (List (Int × Int)) × Int × (Nat × List (Int × Int)) × Int × Int) := ⟨[2, 8, 10, 44, 46, 48], (lCons (cBox (lOne (cSl 0 (.p (.i .i64) (.i .i64))))) (lCons (cSl 1 (.p (.i .i64) (.i .i64))) (lCons (cBox (lOne (cInt .i64))) (lCons (cBor 8 [] 1 true (.p (.i .i64) (.i .i64))) (lCons (cInt .i64) (lOne (cInt .i64)))))))⟩
def xe_impl_least_4 {ρ : Type} (K : X → St → Option ρ) : (((List (Int × Int)) × (List (Int × Int)) × Int)) → Option ρ := (fun x => K (.exit 0) (Go.VI.mk [(2, (.box [(.sl 0 (.p (.i .i64) (.i .i64)) x.1)])), (8, (.sl 1 (.p (.i .i64) (.i .i64)) x.2.1)), (10, (.box [(.int .i64 x.2.2)]))]))
noncomputable def lp_impl_least_1 {ρ : Type} : List (LpEnt ρ) := ⟨4, B_impl_least_4, lpC ci_impl_least_4 xe_impl_least_4 (fun v kn ke => impl_least_R4 v.1 v.2.1 v.2.2.1 v.2.2.2.1 v.2.2.2.2.1 v.2.2.2.2.2 (fun a0 a1 a2 a3 a4 a5 => kn (a0, a1, a2, a3, a4, a5)) (fun a0 a1 a2 => ke (a0, a1, a2)))⟩ :: lp_impl_least_0
theorem ls_impl_least_1 {ρ : Type} : LpEnts Try.prog st_impl_least (lp_impl_least_1 (ρ := ρ)) := loop_more (st_ok _ _ _) fs_impl_least ls_impl_least_0 (by kernel_rfl) (has_of (by kernel_rfl) has_nil) ci_impl_least_4 [2, 8, 10] xe_impl_least_4 (fun v kn ke => impl_least_R4 v.1 v.2.1 v.2.2.1 v.2.2.2.1 v.2.2.2.2.1 v.2.2.2.2.2 (fun a0 a1 a2 a3 a4 a5 => kn (a0, a1, a2, a3, a4, a5)) (fun a0 a1 a2 => ke (a0, a1, a2))) (fun v => by kernel_rfl) (fun v KN KE => by kernel_rfl) 4
noncomputable def C_impl_least {ρ : Type} : FnCl ρ := fnC 25 (lOne (cSl 0 (.p (.i .i64) (.i .i64)))) lNil (fun (e : (List (Int × Int)) × Int) => (((.tup [(.sl 1 (.p (.i .i64) (.i .i64)) e.1), (.int .i64 e.2)]) : PV), ([] : List PV))) (fun a o K => impl_least a (fun r0 r1 => K (r0, r1)))
theorem S_impl_least {ρ : Type} : FnSound Try.prog (C_impl_least (ρ := ρ)) := fn_sound (st_ok _ _ _) fs_impl_least ls_impl_least_1 (by kernel_rfl) (fn := Try.f25) (by kernel_rfl) (by kernel_rfl) (has_of (by kernel_rfl) (has_cons (c := B_impl_least_4) 0 (by kernel_rfl) has_nil)) _ _ _ _ (fun a => by kernel_rfl) (fun a o K => by kernel_rfl)
abbrev st_impl_DirectionsOfWidth : Sta := stOf [(3, 2, 1), (5, 0, 1), (8, 0, 1), (10, 0, 1)] [] 34
noncomputable def fns_impl_DirectionsOfWidth {ρ : Type} : List (FnCl ρ) := [C_impl_IsPolygon, C_impl_least]
theorem fs_impl_DirectionsOfWidth {ρ : Type} : ∀ c ∈ fns_impl_DirectionsOfWidth (ρ := ρ), FnSound Try.prog c := (fs_cons S_impl_IsPolygon (fs_cons S_impl_least fs_nil))
noncomputable def lp_impl_DirectionsOfWidth_0 {ρ : Type} : List (LpEnt ρ) := []
theorem ls_impl_DirectionsOfWidth_0 {ρ : Type} : LpEnts Try.prog st_impl_DirectionsOfWidth (lp_impl_DirectionsOfWidth_0 (ρ := ρ)) := fun _ h => nomatch h
noncomputable def B_impl_DirectionsOfWidth_6 : Code := (loopsOf (bodyOf Try.f9)).getD 0 .skip
def ci_impl_DirectionsOfWidth_6 : CodS ((List (List Int)) × (List (Int × Int)) × Int × Int) := ⟨[12, 36, 38, 40], (lCons (cSl 2 (.l (.i .i64))) (lCons (cSl 1 (.p (.i .i64) (.i .i64))) (lCons (cInt .i64) (lOne (cInt .i64)))))⟩
def xe_impl_DirectionsOfWidth_6 {ρ : Type} (K : X → St → Option ρ) : (List (List Int)) → Option ρ := (fun x => K (.exit 0) (Go.VI.mk [(12, (.sl 2 (.l (.i .i64)) x))]))
noncomputable def lp_impl_DirectionsOfWidth_1 {ρ : Type} : List (LpEnt ρ) := ⟨6, B_impl_DirectionsOfWidth_6, lpC ci_impl_DirectionsOfWidth_6 xe_impl_DirectionsOfWidth_6 (fun v kn ke => impl_DirectionsOfWidth_R6 v.1 v.2.1 v.2.2.1 v.2.2.2 (fun a0 a1 a2 a3 => kn (a0, a1, a2, a3)) (fun a0 => ke a0))⟩ :: lp_impl_DirectionsOfWidth_0
theorem ls_impl_DirectionsOfWidth_1 {ρ : Type} : LpEnts Try.prog st_impl_DirectionsOfWidth (lp_impl_DirectionsOfWidth_1 (ρ := ρ)) := loop_more (st_ok _ _ _) fs_impl_DirectionsOfWidth ls_impl_DirectionsOfWidth_0 (by kernel_rfl) (has_of (by kernel_rfl) has_nil) ci_impl_DirectionsOfWidth_6 [12] xe_impl_DirectionsOfWidth_6 (fun v kn ke => impl_DirectionsOfWidth_R6 v.1 v.2.1 v.2.2.1 v.2.2.2 (fun a0 a1 a2 a3 => kn (a0, a1, a2, a3)) (fun a0 => ke a0)) (fun v => by kernel_rfl) (fun v KN KE => by kernel_rfl) 6
noncomputable def C_impl_DirectionsOfWidth {ρ : Type} : FnCl ρ := fnC 9 (lOne (cSl 0 (.p (.i .i64) (.i .i64)))) lNil (fun (e : (List (List Int)) × Bool) => (((.tup [(.sl 2 (.l (.i .i64)) e.1), (.bool e.2)]) : PV), ([] : List PV))) (fun a o K => impl_DirectionsOfWidth a (fun r0 r1 => K (r0, r1)))
theorem S_impl_DirectionsOfWidth {ρ : Type} : FnSound Try.prog (C_impl_DirectionsOfWidth (ρ := ρ)) := fn_sound (st_ok _ _ _) fs_impl_DirectionsOfWidth ls_impl_DirectionsOfWidth_1 (by kernel_rfl) (fn := Try.f9) (by kernel_rfl) (by kernel_rfl) (has_of (by kernel_rfl) (has_cons (c := B_impl_DirectionsOfWidth_6) 0 (by kernel_rfl) has_nil)) _ _ _ _ (fun a => by kernel_rfl) (fun a o K => by kernel_rfl)
abbrev st_laws_eqIntS : Sta := stOf [] [] 26
noncomputable def fns_laws_eqIntS {ρ : Type} : List (FnCl ρ) := []
theorem fs_laws_eqIntS {ρ : Type} : ∀ c ∈ fns_laws_eqIntS (ρ := ρ), FnSound Try.prog c := fs_nil
noncomputable def lp_laws_eqIntS_0 {ρ : Type} : List (LpEnt ρ) := []
theorem ls_laws_eqIntS_0 {ρ : Type} : LpEnts Try.prog st_laws_eqIntS (lp_laws_eqIntS_0 (ρ := ρ)) := fun _ h => nomatch h
noncomputable def B_laws_eqIntS_4 : Code := (loopsOf (bodyOf Try.f26)).getD 0 .skip
def ci_laws_eqIntS_4 : CodS ((List Int) × (List Int) × Int) := ⟨[0, 2, 10], (lCons (cSl 0 (.i .i64)) (lCons (cSl 0 (.i .i64)) (lOne (cInt .i64))))⟩
def xe_laws_eqIntS_4 {ρ : Type} (K : X → St → Option ρ) : (Bool ⊕ Unit) → Option ρ := (Sum.elim (fun x => K .ret (Go.VI.mk [(8, (.bool x))])) (fun _ => K (.exit 0) (Go.VI.mk [(8, .undef)])))
noncomputable def lp_laws_eqIntS_1 {ρ : Type} : List (LpEnt ρ) := ⟨4, B_laws_eqIntS_4, lpC ci_laws_eqIntS_4 xe_laws_eqIntS_4 (fun v kn ke => laws_eqIntS_R4 v.1 v.2.1 v.2.2 (fun a0 a1 a2 => kn (a0, a1, a2)) (fun a0 => ke (.inl a0)) (ke (.inr ())))⟩ :: lp_laws_eqIntS_0
theorem ls_laws_eqIntS_1 {ρ : Type} : LpEnts Try.prog st_laws_eqIntS (lp_laws_eqIntS_1 (ρ := ρ)) := loop_more (st_ok _ _ _) fs_laws_eqIntS ls_laws_eqIntS_0 (by kernel_rfl) (has_of (by kernel_rfl) has_nil) ci_laws_eqIntS_4 [8] xe_laws_eqIntS_4 (fun v kn ke => laws_eqIntS_R4 v.1 v.2.1 v.2.2 (fun a0 a1 a2 => kn (a0, a1, a2)) (fun a0 => ke (.inl a0)) (ke (.inr ()))) (fun v => by kernel_rfl) (fun v KN KE => by kernel_rfl) 4
noncomputable def C_laws_eqIntS {ρ : Type} : FnCl ρ := fnC 26 (lCons (cSl 0 (.i .i64)) (lOne (cSl 0 (.i .i64)))) lNil (fun (e : Bool) => (((.bool e) : PV), ([] : List PV))) (fun a o K => laws_eqIntS a.1 a.2 (fun r0 => K r0))
theorem S_laws_eqIntS {ρ : Type} : FnSound Try.prog (C_laws_eqIntS (ρ := ρ)) := fn_sound (st_ok _ _ _) fs_laws_eqIntS ls_laws_eqIntS_1 (by kernel_rfl) (fn := Try.f26) (by kernel_rfl) (by kernel_rfl) (has_of (by kernel_rfl) (has_cons (c := B_laws_eqIntS_4) 0 (by kernel_rfl) has_nil)) _ _ _ _ (fun a => by kernel_rfl) (fun a o K => by kernel_rfl)
abbrev st_laws_eqIntSS : Sta := stOf [] [] 27
noncomputable def fns_laws_eqIntSS {ρ : Type} : List (FnCl ρ) := [C_laws_eqIntS]
theorem fs_laws_eqIntSS {ρ : Type} : ∀ c ∈ fns_laws_eqIntSS (ρ := ρ), FnSound Try.prog c := (fs_cons S_laws_eqIntS fs_nil)
noncomputable def lp_laws_eqIntSS_0 {ρ : Type} : List (LpEnt ρ) := []
theorem ls_laws_eqIntSS_0 {ρ : Type} : LpEnts Try.prog st_laws_eqIntSS (lp_laws_eqIntSS_0 (ρ := ρ)) := fun _ h => nomatch h
noncomputable def B_laws_eqIntSS_4 : Code := (loopsOf (bodyOf Try.f10)).getD 0 .skip
def ci_laws_eqIntSS_4 : CodS ((List (List Int)) × (List (List Int)) × Int) := ⟨[0, 2, 10], (lCons (cSl 0 (.l (.i .i64))) (lCons (cSl 0 (.l (.i .i64))) (lOne (cInt .i64))))⟩
def xe_laws_eqIntSS_4 {ρ : Type} (K : X → St → Option ρ) : (Bool ⊕ Unit) → Option ρ := (Sum.elim (fun x => K .ret (Go.VI.mk [(8, (.bool x))])) (fun _ => K (.exit 0) (Go.VI.mk [(8, .undef)])))
noncomputable def lp_laws_eqIntSS_1 {ρ : Type} : List (LpEnt ρ) := ⟨4, B_laws_eqIntSS_4, lpC ci_laws_eqIntSS_4 xe_laws_eqIntSS_4 (fun v kn ke => laws_eqIntSS_R4 v.1 v.2.1 v.2.2 (fun a0 a1 a2 => kn (a0, a1, a2)) (fun a0 => ke (.inl a0)) (ke (.inr ())))⟩ :: lp_laws_eqIntSS_0
theorem ls_laws_eqIntSS_1 {ρ : Type} : LpEnts Try.prog st_laws_eqIntSS (lp_laws_eqIntSS_1 (ρ := ρ)) := loop_more (st_ok _ _ _) fs_laws_eqIntSS ls_laws_eqIntSS_0 (by kernel_rfl) (has_of (by kernel_rfl) has_nil) ci_laws_eqIntSS_4 [8] xe_laws_eqIntSS_4 (fun v kn ke => laws_eqIntSS_R4 v.1 v.2.1 v.2.2 (fun a0 a1 a2 => kn (a0, a1, a2)) (fun a0 => ke (.inl a0)) (ke (.inr ()))) (fun v => by kernel_rfl) (fun v KN KE => by kernel_rfl) 4
noncomputable def C_laws_eqIntSS {ρ : Type} : FnCl ρ := fnC 10 (lCons (cSl 0 (.l (.i .i64))) (lOne (cSl 0 (.l (.i .i64))))) lNil (fun (e : Bool) => (((.bool e) : PV), ([] : List PV))) (fun a o K => laws_eqIntSS a.1 a.2 (fun r0 => K r0))
theorem S_laws_eqIntSS {ρ : Type} : FnSound Try.prog (C_laws_eqIntSS (ρ := ρ)) := fn_sound (st_ok _ _ _) fs_laws_eqIntSS ls_laws_eqIntSS_1 (by kernel_rfl) (fn := Try.f10) (by kernel_rfl) (by kernel_rfl) (has_of (by kernel_rfl) (has_cons (c := B_laws_eqIntSS_4) 0 (by kernel_rfl) has_nil)) _ _ _ _ (fun a => by kernel_rfl) (fun a o K => by kernel_rfl)
abbrev st_laws_eqPeg : Sta := stOf [] [] 15
noncomputable def fns_laws_eqPeg {ρ : Type} : List (FnCl ρ) := []
theorem fs_laws_eqPeg {ρ : Type} : ∀ c ∈ fns_laws_eqPeg (ρ := ρ), FnSound Try.prog c := fs_nil
noncomputable def lp_laws_eqPeg_0 {ρ : Type} : List (LpEnt ρ) := []
theorem ls_laws_eqPeg_0 {ρ : Type} : LpEnts Try.prog st_laws_eqPeg (lp_laws_eqPeg_0 (ρ := ρ)) := fun _ h => nomatch h
noncomputable def C_laws_eqPeg {ρ : Type} : FnCl ρ := fnC 27 (lCons (cAgg (lCons (cInt .i64) (lOne (cInt .i64)))) (lOne (cAgg (lCons (cInt .i64) (lOne (cInt .i64)))))) lNil (fun (e : Bool) => (((.bool e) : PV), ([] : List PV))) (fun a o K => laws_eqPeg a.1 a.2 (fun r0 => K r0))
theorem S_laws_eqPeg {ρ : Type} : FnSound Try.prog (C_laws_eqPeg (ρ := ρ)) := fn_sound (st_ok _ _ _) fs_laws_eqPeg ls_laws_eqPeg_0 (by kernel_rfl) (fn := Try.f27) (by kernel_rfl) (by kernel_rfl) (has_of (by kernel_rfl) has_nil) _ _ _ _ (fun a => by kernel_rfl) (fun a o K => by kernel_rfl)
abbrev st_laws_eqPegS : Sta := stOf [] [] 27
noncomputable def fns_laws_eqPegS {ρ : Type} : List (FnCl ρ) := [C_laws_eqPeg]
theorem fs_laws_eqPegS {ρ : Type} : ∀ c ∈ fns_laws_eqPegS (ρ := ρ), FnSound Try.prog c := (fs_cons S_laws_eqPeg fs_nil)
noncomputable def lp_laws_eqPegS_0 {ρ : Type} : List (LpEnt ρ) := []
theorem ls_laws_eqPegS_0 {ρ : Type} : LpEnts Try.prog st_laws_eqPegS (lp_laws_eqPegS_0 (ρ := ρ)) := fun _ h => nomatch h
noncomputable def B_laws_eqPegS_4 : Code := (loopsOf (bodyOf Try.f11)).getD 0 .skip
def ci_laws_eqPegS_4 : CodS ((List (Int × Int)) × (List (Int × Int)) × Int) := ⟨[0, 2, 10], (lCons (cSl 0 (.p (.i .i64) (.i .i64))) (lCons (cSl 0 (.p (.i .i64) (.i .i64))) (lOne (cInt .i64))))⟩
def xe_laws_eqPegS_4 {ρ : Type} (K : X → St → Option ρ) : (Bool ⊕ Unit) → Option ρ := (Sum.elim (fun x => K .ret (Go.VI.mk [(8, (.bool x))])) (fun _ => K (.exit 0) (Go.VI.mk [(8, .undef)])))
noncomputable def lp_laws_eqPegS_1 {ρ : Type} : List (LpEnt ρ) := ⟨4, B_laws_eqPegS_4, lpC ci_laws_eqPegS_4 xe_laws_eqPegS_4 (fun v kn ke => laws_eqPegS_R4 v.1 v.2.1 v.2.2 (fun a0 a1 a2 => kn (a0, a1, a2)) (fun a0 => ke (.inl a0)) (ke (.inr ())))⟩ :: lp_laws_eqPegS_0
theorem ls_laws_eqPegS_1 {ρ : Type} : LpEnts Try.prog st_laws_eqPegS (lp_laws_eqPegS_1 (ρ := ρ)) := loop_more (st_ok _ _ _) fs_laws_eqPegS ls_laws_eqPegS_0 (by kernel_rfl) (has_of (by kernel_rfl) has_nil) ci_laws_eqPegS_4 [8] xe_laws_eqPegS_4 (fun v kn ke => laws_eqPegS_R4 v.1 v.2.1 v.2.2 (fun a0 a1 a2 => kn (a0, a1, a2)) (fun a0 => ke (.inl a0)) (ke (.inr ()))) (fun v => by kernel_rfl) (fun v KN KE => by kernel_rfl) 4
noncomputable def C_laws_eqPegS {ρ : Type} : FnCl ρ := fnC 11 (lCons (cSl 0 (.p (.i .i64) (.i .i64))) (lOne (cSl 0 (.p (.i .i64) (.i .i64))))) lNil (fun (e : Bool) => (((.bool e) : PV), ([] : List PV))) (fun a o K => laws_eqPegS a.1 a.2 (fun r0 => K r0))
theorem S_laws_eqPegS {ρ : Type} : FnSound Try.prog (C_laws_eqPegS (ρ := ρ)) := fn_sound (st_ok _ _ _) fs_laws_eqPegS ls_laws_eqPegS_1 (by kernel_rfl) (fn := Try.f11) (by kernel_rfl) (by kernel_rfl) (has_of (by kernel_rfl) (has_cons (c := B_laws_eqPegS_4) 0 (by kernel_rfl) has_nil)) _ _ _ _ (fun a => by kernel_rfl) (fun a o K => by kernel_rfl)
abbrev st_laws_markPegS : Sta := stOf [] [] 27
noncomputable def fns_laws_markPegS {ρ : Type} : List (FnCl ρ) := []
theorem fs_laws_markPegS {ρ : Type} : ∀ c ∈ fns_laws_markPegS (ρ := ρ), FnSound Try.prog c := fs_nil
noncomputable def lp_laws_markPegS_0 {ρ : Type} : List (LpEnt ρ) := []
theorem ls_laws_markPegS_0 {ρ : Type} : LpEnts Try.prog st_laws_markPegS (lp_laws_markPegS_0 (ρ := ρ)) := fun _ h => nomatch h
noncomputable def B_laws_markPegS_2 : Code := (loopsOf (bodyOf Try.f12)).getD 0 .skip
def ci_laws_markPegS_2 : CodS ((List (Int × Int)) × Int × Int) := ⟨[0, 1, 2, 10], (lSkip (cAls 1) (lCons (cSl 1 (.p (.i .i64) (.i .i64))) (lCons (cInt .i64) (lOne (cInt .i64)))))⟩
def xe_laws_markPegS_2 {ρ : Type} (K : X → St → Option ρ) : (((List (Int × Int)) × Int)) → Option ρ := (fun x => K (.exit 0) (Go.VI.mk [(1, (.sl 1 (.p (.i .i64) (.i .i64)) x.1)), (2, (.int .i64 x.2))]))
noncomputable def lp_laws_markPegS_1 {ρ : Type} : List (LpEnt ρ) := ⟨2, B_laws_markPegS_2, lpC ci_laws_markPegS_2 xe_laws_markPegS_2 (fun v kn ke => laws_markPegS_R2 v.1 v.2.1 v.2.2 (fun a0 a1 a2 => kn (a0, a1, a2)) (fun a0 a1 => ke (a0, a1)))⟩ :: lp_laws_markPegS_0
theorem ls_laws_markPegS_1 {ρ : Type} : LpEnts Try.prog st_laws_markPegS (lp_laws_markPegS_1 (ρ := ρ)) := loop_more (st_ok _ _ _) fs_laws_markPegS ls_laws_markPegS_0 (by kernel_rfl) (has_of (by kernel_rfl) has_nil) ci_laws_markPegS_2 [1, 2] xe_laws_markPegS_2 (fun v kn ke => laws_markPegS_R2 v.1 v.2.1 v.2.2 (fun a0 a1 a2 => kn (a0, a1, a2)) (fun a0 a1 => ke (a0, a1))) (fun v => by kernel_rfl) (fun v KN KE => by kernel_rfl) 2
noncomputable def C_laws_markPegS {ρ : Type} : FnCl ρ := fnC 12 (lSkip (cAls 1) (lOne (cInt .i64))) (lOne (cSl 1 (.p (.i .i64) (.i .i64)))) (fun (e : Int × List (Int × Int)) => (((.int .i64 e.1) : PV), ([(.sl 1 (.p (.i .i64) (.i .i64)) e.2)] : List PV))) (fun a o K => laws_markPegS a o (fun r0 r1 => K (r0, r1)))
theorem S_laws_markPegS {ρ : Type} : FnSound Try.prog (C_laws_markPegS (ρ := ρ)) := fn_sound (st_ok _ _ _) fs_laws_markPegS ls_laws_markPegS_1 (by kernel_rfl) (fn := Try.f12) (by kernel_rfl) (by kernel_rfl) (has_of (by kernel_rfl) (has_cons (c := B_laws_markPegS_2) 0 (by kernel_rfl) has_nil)) _ _ _ _ (fun a => by kernel_rfl) (fun a o K => by kernel_rfl)
abbrev st_laws_markIntS : Sta := stOf [] [] 19
noncomputable def fns_laws_markIntS {ρ : Type} : List (FnCl ρ) := []
theorem fs_laws_markIntS {ρ : Type} : ∀ c ∈ fns_laws_markIntS (ρ := ρ), FnSound Try.prog c := fs_nil
noncomputable def lp_laws_markIntS_0 {ρ : Type} : List (LpEnt ρ) := []
theorem ls_laws_markIntS_0 {ρ : Type} : LpEnts Try.prog st_laws_markIntS (lp_laws_markIntS_0 (ρ := ρ)) := fun _ h => nomatch h
noncomputable def B_laws_markIntS_2 : Code := (loopsOf (bodyOf Try.f28)).getD 0 .skip
def ci_laws_markIntS_2 : CodS ((List Int) × Int × Int) := ⟨[0, 1, 2, 10], (lSkip (cAls 1) (lCons (cSl 1 (.i .i64)) (lCons (cInt .i64) (lOne (cInt .i64)))))⟩
def xe_laws_markIntS_2 {ρ : Type} (K : X → St → Option ρ) : (((List Int) × Int)) → Option ρ := (fun x => K (.exit 0) (Go.VI.mk [(1, (.sl 1 (.i .i64) x.1)), (2, (.int .i64 x.2))]))
noncomputable def lp_laws_markIntS_1 {ρ : Type} : List (LpEnt ρ) := ⟨2, B_laws_markIntS_2, lpC ci_laws_markIntS_2 xe_laws_markIntS_2 (fun v kn ke => laws_markIntS_R2 v.1 v.2.1 v.2.2 (fun a0 a1 a2 => kn (a0, a1, a2)) (fun a0 a1 => ke (a0, a1)))⟩ :: lp_laws_markIntS_0
theorem ls_laws_markIntS_1 {ρ : Type} : LpEnts Try.prog st_laws_markIntS (lp_laws_markIntS_1 (ρ := ρ)) := loop_more (st_ok _ _ _) fs_laws_markIntS ls_laws_markIntS_0 (by kernel_rfl) (has_of (by kernel_rfl) has_nil) ci_laws_markIntS_2 [1, 2] xe_laws_markIntS_2 (fun v kn ke => laws_markIntS_R2 v.1 v.2.1 v.2.2 (fun a0 a1 a2 => kn (a0, a1, a2)) (fun a0 a1 => ke (a0, a1))) (fun v => by kernel_rfl) (fun v KN KE => by kernel_rfl) 2
noncomputable def C_laws_markIntS {ρ : Type} : FnCl ρ := fnC 28 (lSkip (cAls 1) (lOne (cInt .i64))) (lOne (cSl 1 (.i .i64))) (fun (e : Int × List Int) => (((.int .i64 e.1) : PV), ([(.sl 1 (.i .i64) e.2)] : List PV))) (fun a o K => laws_markIntS a o (fun r0 r1 => K (r0, r1)))
theorem S_laws_markIntS {ρ : Type} : FnSound Try.prog (C_laws_markIntS (ρ := ρ)) := fn_sound (st_ok _ _ _) fs_laws_markIntS ls_laws_markIntS_1 (by kernel_rfl) (fn := Try.f28) (by kernel_rfl) (by kernel_rfl) (has_of (by kernel_rfl) (has_cons (c := B_laws_markIntS_2) 0 (by kernel_rfl) has_nil)) _ _ _ _ (fun a => by kernel_rfl) (fun a o K => by kernel_rfl)
abbrev st_laws_markIntSS : Sta := stOf [] [(28, [2, 0])] 19
noncomputable def fns_laws_markIntSS {ρ : Type} : List (FnCl ρ) := [C_laws_markIntS]
theorem fs_laws_markIntSS {ρ : Type} : ∀ c ∈ fns_laws_markIntSS (ρ := ρ), FnSound Try.prog c := (fs_cons S_laws_markIntS fs_nil)
noncomputable def lp_laws_markIntSS_0 {ρ : Type} : List (LpEnt ρ) := []
theorem ls_laws_markIntSS_0 {ρ : Type} : LpEnts Try.prog st_laws_markIntSS (lp_laws_markIntSS_0 (ρ := ρ)) := fun _ h => nomatch h
noncomputable def B_laws_markIntSS_2 : Code := (loopsOf (bodyOf Try.f13)).getD 0 .skip
def ci_laws_markIntSS_2 : CodS ((List (List Int)) × Int × Int) := ⟨[0, 1, 2, 10], (lSkip (cAls 1) (lCons (cSl 2 (.l (.i .i64))) (lCons (cInt .i64) (lOne (cInt .i64)))))⟩
def xe_laws_markIntSS_2 {ρ : Type} (K : X → St → Option ρ) : (((List (List Int)) × Int)) → Option ρ := (fun x => K (.exit 0) (Go.VI.mk [(1, (.sl 2 (.l (.i .i64)) x.1)), (2, (.int .i64 x.2))]))
noncomputable def lp_laws_markIntSS_1 {ρ : Type} : List (LpEnt ρ) := ⟨2, B_laws_markIntSS_2, lpC ci_laws_markIntSS_2 xe_laws_markIntSS_2 (fun v kn ke => laws_markIntSS_R2 v.1 v.2.1 v.2.2 (fun a0 a1 a2 => kn (a0, a1, a2)) (fun a0 a1 => ke (a0, a1)))⟩ :: lp_laws_markIntSS_0
theorem ls_laws_markIntSS_1 {ρ : Type} : LpEnts Try.prog st_laws_markIntSS (lp_laws_markIntSS_1 (ρ := ρ)) := loop_more (st_ok _ _ _) fs_laws_markIntSS ls_laws_markIntSS_0 (by kernel_rfl) (has_of (by kernel_rfl) has_nil) ci_laws_markIntSS_2 [1, 2] xe_laws_markIntSS_2 (fun v kn ke => laws_markIntSS_R2 v.1 v.2.1 v.2.2 (fun a0 a1 a2 => kn (a0, a1, a2)) (fun a0 a1 => ke (a0, a1))) (fun v => by kernel_rfl) (fun v KN KE => by kernel_rfl) 2
noncomputable def C_laws_markIntSS {ρ : Type} : FnCl ρ := fnC 13 (lSkip (cAls 1) (lOne (cInt .i64))) (lOne (cSl 2 (.l (.i .i64)))) (fun (e : Int × List (List Int)) => (((.int .i64 e.1) : PV), ([(.sl 2 (.l (.i .i64)) e.2)] : List PV))) (fun a o K => laws_markIntSS a o (fun r0 r1 => K (r0, r1)))
theorem S_laws_markIntSS {ρ : Type} : FnSound Try.prog (C_laws_markIntSS (ρ := ρ)) := fn_sound (st_ok _ _ _) fs_laws_markIntSS ls_laws_markIntSS_1 (by kernel_rfl) (fn := Try.f13) (by kernel_rfl) (by kernel_rfl) (has_of (by kernel_rfl) (has_cons (c := B_laws_markIntSS_2) 0 (by kernel_rfl) has_nil)) _ _ _ _ (fun a => by kernel_rfl) (fun a o K => by kernel_rfl)
abbrev st_laws_heldIntS : Sta := stOf [] [] 21
noncomputable def fns_laws_heldIntS {ρ : Type} : List (FnCl ρ) := []
theorem fs_laws_heldIntS {ρ : Type} : ∀ c ∈ fns_laws_heldIntS (ρ := ρ), FnSound Try.prog c := fs_nil
noncomputable def lp_laws_heldIntS_0 {ρ : Type} : List (LpEnt ρ) := []
theorem ls_laws_heldIntS_0 {ρ : Type} : LpEnts Try.prog st_laws_heldIntS (lp_laws_heldIntS_0 (ρ := ρ)) := fun _ h => nomatch h
noncomputable def B_laws_heldIntS_2 : Code := (loopsOf (bodyOf Try.f29)).getD 0 .skip
def ci_laws_heldIntS_2 : CodS ((List Int) × Int × Int) := ⟨[0, 2, 10], (lCons (cSl 0 (.i .i64)) (lCons (cInt .i64) (lOne (cInt .i64))))⟩
def xe_laws_heldIntS_2 {ρ : Type} (K : X → St → Option ρ) : ((Int × Int) ⊕ Int) → Option ρ := (Sum.elim (fun x => K .ret (Go.VI.mk [(2, (.int .i64 x.1)), (8, (.int .i64 x.2))])) (fun x => K (.exit 0) (Go.VI.mk [(2, (.int .i64 x)), (8, .undef)])))
noncomputable def lp_laws_heldIntS_1 {ρ : Type} : List (LpEnt ρ) := ⟨2, B_laws_heldIntS_2, lpC ci_laws_heldIntS_2 xe_laws_heldIntS_2 (fun v kn ke => laws_heldIntS_R2 v.1 v.2.1 v.2.2 (fun a0 a1 a2 => kn (a0, a1, a2)) (fun a0 a1 => ke (.inl (a0, a1))) (fun a0 => ke (.inr a0)))⟩ :: lp_laws_heldIntS_0
theorem ls_laws_heldIntS_1 {ρ : Type} : LpEnts Try.prog st_laws_heldIntS (lp_laws_heldIntS_1 (ρ := ρ)) := loop_more (st_ok _ _ _) fs_laws_heldIntS ls_laws_heldIntS_0 (by kernel_rfl) (has_of (by kernel_rfl) has_nil) ci_laws_heldIntS_2 [2, 8] xe_laws_heldIntS_2 (fun v kn ke => laws_heldIntS_R2 v.1 v.2.1 v.2.2 (fun a0 a1 a2 => kn (a0, a1, a2)) (fun a0 a1 => ke (.inl (a0, a1))) (fun a0 => ke (.inr a0))) (fun v => by kernel_rfl) (fun v KN KE => by kernel_rfl) 2
noncomputable def C_laws_heldIntS {ρ : Type} : FnCl ρ := fnC 29 (lCons (cSl 0 (.i .i64)) (lOne (cInt .i64))) lNil (fun (e : Int) => (((.int .i64 e) : PV), ([] : List PV))) (fun a o K => laws_heldIntS a.1 a.2 (fun r0 => K r0))
theorem S_laws_heldIntS {ρ : Type} : FnSound Try.prog (C_laws_heldIntS (ρ := ρ)) := fn_sound (st_ok _ _ _) fs_laws_heldIntS ls_laws_heldIntS_1 (by kernel_rfl) (fn := Try.f29) (by kernel_rfl) (by kernel_rfl) (has_of (by kernel_rfl) (has_cons (c := B_laws_heldIntS_2) 0 (by kernel_rfl) has_nil)) _ _ _ _ (fun a => by kernel_rfl) (fun a o K => by kernel_rfl)
abbrev st_laws_heldIntSS : Sta := stOf [] [] 21
noncomputable def fns_laws_heldIntSS {ρ : Type} : List (FnCl ρ) := [C_laws_heldIntS]
theorem fs_laws_heldIntSS {ρ : Type} : ∀ c ∈ fns_laws_heldIntSS (ρ := ρ), FnSound Try.prog c := (fs_cons S_laws_heldIntS fs_nil)
noncomputable def lp_laws_heldIntSS_0 {ρ : Type} : List (LpEnt ρ) := []
theorem ls_laws_heldIntSS_0 {ρ : Type} : LpEnts Try.prog st_laws_heldIntSS (lp_laws_heldIntSS_0 (ρ := ρ)) := fun _ h => nomatch h
noncomputable def B_laws_heldIntSS_2 : Code := (loopsOf (bodyOf Try.f14)).getD 0 .skip
def ci_laws_heldIntSS_2 : CodS ((List (List Int)) × Int × Int) := ⟨[0, 2, 10], (lCons (cSl 0 (.l (.i .i64))) (lCons (cInt .i64) (lOne (cInt .i64))))⟩
def xe_laws_heldIntSS_2 {ρ : Type} (K : X → St → Option ρ) : ((Int × Int) ⊕ Int) → Option ρ := (Sum.elim (fun x => K .ret (Go.VI.mk [(2, (.int .i64 x.1)), (8, (.int .i64 x.2))])) (fun x => K (.exit 0) (Go.VI.mk [(2, (.int .i64 x)), (8, .undef)])))
noncomputable def lp_laws_heldIntSS_1 {ρ : Type} : List (LpEnt ρ) := ⟨2, B_laws_heldIntSS_2, lpC ci_laws_heldIntSS_2 xe_laws_heldIntSS_2 (fun v kn ke => laws_heldIntSS_R2 v.1 v.2.1 v.2.2 (fun a0 a1 a2 => kn (a0, a1, a2)) (fun a0 a1 => ke (.inl (a0, a1))) (fun a0 => ke (.inr a0)))⟩ :: lp_laws_heldIntSS_0
theorem ls_laws_heldIntSS_1 {ρ : Type} : LpEnts Try.prog st_laws_heldIntSS (lp_laws_heldIntSS_1 (ρ := ρ)) := loop_more (st_ok _ _ _) fs_laws_heldIntSS ls_laws_heldIntSS_0 (by kernel_rfl) (has_of (by kernel_rfl) has_nil) ci_laws_heldIntSS_2 [2, 8] xe_laws_heldIntSS_2 (fun v kn ke => laws_heldIntSS_R2 v.1 v.2.1 v.2.2 (fun a0 a1 a2 => kn (a0, a1, a2)) (fun a0 a1 => ke (.inl (a0, a1))) (fun a0 => ke (.inr a0))) (fun v => by kernel_rfl) (fun v KN KE => by kernel_rfl) 2
noncomputable def C_laws_heldIntSS {ρ : Type} : FnCl ρ := fnC 14 (lCons (cSl 0 (.l (.i .i64))) (lOne (cInt .i64))) lNil (fun (e : Int) => (((.int .i64 e) : PV), ([] : List PV))) (fun a o K => laws_heldIntSS a.1 a.2 (fun r0 => K r0))
theorem S_laws_heldIntSS {ρ : Type} : FnSound Try.prog (C_laws_heldIntSS (ρ := ρ)) := fn_sound (st_ok _ _ _) fs_laws_heldIntSS ls_laws_heldIntSS_1 (by kernel_rfl) (fn := Try.f14) (by kernel_rfl) (by kernel_rfl) (has_of (by kernel_rfl) (has_cons (c := B_laws_heldIntSS_2) 0 (by kernel_rfl) has_nil)) _ _ _ _ (fun a => by kernel_rfl) (fun a o K => by kernel_rfl)
abbrev st_laws_FnExactDirectionsOfWidth : Sta := stOf [(5, 3, 1), (7, 2, 1), (13, 0, 1), (24, 3, 1), (25, 0, 1), (25, 1, 1), (28, 0, 1)] [(12, [2, 0]), (13, [2, 0])] 96
noncomputable def fns_laws_FnExactDirectionsOfWidth {ρ : Type} : List (FnCl ρ) := [C_laws_szPegS, C_laws_toPegS, C_spec_DirectionsOfWidth, C_impl_DirectionsOfWidth, C_laws_eqIntSS, C_laws_eqPegS, C_laws_markPegS, C_laws_markIntSS, C_laws_heldIntSS]
theorem fs_laws_FnExactDirectionsOfWidth {ρ : Type} : ∀ c ∈ fns_laws_FnExactDirectionsOfWidth (ρ := ρ), FnSound Try.prog c := (fs_cons S_laws_szPegS (fs_cons S_laws_toPegS (fs_cons S_spec_DirectionsOfWidth (fs_cons S_impl_DirectionsOfWidth (fs_cons S_laws_eqIntSS (fs_cons S_laws_eqPegS (fs_cons S_laws_markPegS (fs_cons S_laws_markIntSS (fs_cons S_laws_heldIntSS fs_nil)))))))))
noncomputable def lp_laws_FnExactDirectionsOfWidth_0 {ρ : Type} : List (LpEnt ρ) := []
theorem ls_laws_FnExactDirectionsOfWidth_0 {ρ : Type} : LpEnts Try.prog st_laws_FnExactDirectionsOfWidth (lp_laws_FnExactDirectionsOfWidth_0 (ρ := ρ)) := fun _ h => nomatch h
noncomputable def C_laws_FnExactDirectionsOfWidth {ρ : Type} : FnCl ρ := fnC 3 (lOne (cSl 0 (.p (.i .i64) (.i .i64)))) lNil (fun (e : Bool) => (((.bool e) : PV), ([] : List PV))) (fun a o K => laws_FnExactDirectionsOfWidth a (fun r0 => K r0))
theorem S_laws_FnExactDirectionsOfWidth {ρ : Type} : FnSound Try.prog (C_laws_FnExactDirectionsOfWidth (ρ := ρ)) := fn_sound (st_ok _ _ _) fs_laws_FnExactDirectionsOfWidth ls_laws_FnExactDirectionsOfWidth_0 (by kernel_rfl) (fn := Try.f3) (by kernel_rfl) (by kernel_rfl) (has_of (by kernel_rfl) has_nil) _ _ _ _ (fun a => by kernel_rfl) (fun a o K => by kernel_rfl)
abbrev st_spec_mvFull : Sta := stOf [] [] 48
noncomputable def fns_spec_mvFull {ρ : Type} : List (FnCl ρ) := []
theorem fs_spec_mvFull {ρ : Type} : ∀ c ∈ fns_spec_mvFull (ρ := ρ), FnSound Try.prog c := fs_nil
noncomputable def lp_spec_mvFull_0 {ρ : Type} : List (LpEnt ρ) := []
theorem ls_spec_mvFull_0 {ρ : Type} : LpEnts Try.prog st_spec_mvFull (lp_spec_mvFull_0 (ρ := ρ)) := fun _ h => nomatch h
noncomputable def B_spec_mvFull_2 : Code := (loopsOf (bodyOf Try.f53)).getD 0 .skip
def ci_spec_mvFull_2 : CodS (Int × Int × Int × Int × Int × Int) := ⟨[0, 2, 12, 14, 16, 18], (lCons (cInt .i64) (lCons (cInt .i64) (lCons (cInt .i64) (lCons (cInt .i64) (lCons (cInt .i64) (lOne (cInt .i64)))))))⟩
def xe_spec_mvFull_2 {ρ : Type} (K : X → St → Option ρ) : ((Int × Int × Int)) → Option ρ := (fun x => K (.exit 0) (Go.VI.mk [(0, (.int .i64 x.1)), (12, (.int .i64 x.2.1)), (14, (.int .i64 x.2.2))]))
noncomputable def lp_spec_mvFull_1 {ρ : Type} : List (LpEnt ρ) := ⟨2, B_spec_mvFull_2, lpC ci_spec_mvFull_2 xe_spec_mvFull_2 (fun v kn ke => spec_mvFull_R2 v.1 v.2.1 v.2.2.1 v.2.2.2.1 v.2.2.2.2.1 v.2.2.2.2.2 (fun a0 a1 a2 a3 a4 a5 => kn (a0, a1, a2, a3, a4, a5)) (fun a0 a1 a2 => ke (a0, a1, a2)))⟩ :: lp_spec_mvFull_0
theorem ls_spec_mvFull_1 {ρ : Type} : LpEnts Try.prog st_spec_mvFull (lp_spec_mvFull_1 (ρ := ρ)) := loop_more (st_ok _ _ _) fs_spec_mvFull ls_spec_mvFull_0 (by kernel_rfl) (has_of (by kernel_rfl) has_nil) ci_spec_mvFull_2 [0, 12, 14] xe_spec_mvFull_2 (fun v kn ke => spec_mvFull_R2 v.1 v.2.1 v.2.2.1 v.2.2.2.1 v.2.2.2.2.1 v.2.2.2.2.2 (fun a0 a1 a2 a3 a4 a5 => kn (a0, a1, a2, a3, a4, a5)) (fun a0 a1 a2 => ke (a0, a1, a2))) (fun v => by kernel_rfl) (fun v KN KE => by kernel_rfl) 2
noncomputable def C_spec_mvFull {ρ : Type} : FnCl ρ := fnC 53 (lCons (cInt .i64) (lOne (cInt .i64))) lNil (fun (e : Int × Int) => (((.tup [(.int .i64 e.1), (.int .i64 e.2)]) : PV), ([] : List PV))) (fun a o K => spec_mvFull a.1 a.2 (fun r0 r1 => K (r0, r1)))
theorem S_spec_mvFull {ρ : Type} : FnSound Try.prog (C_spec_mvFull (ρ := ρ)) := fn_sound (st_ok _ _ _) fs_spec_mvFull ls_spec_mvFull_1 (by kernel_rfl) (fn := Try.f53) (by kernel_rfl) (by kernel_rfl) (has_of (by kernel_rfl) (has_cons (c := B_spec_mvFull_2) 0 (by kernel_rfl) has_nil)) _ _ _ _ (fun a => by kernel_rfl) (fun a o K => by kernel_rfl)
abbrev st_spec_wiNearer : Sta := stOf [] [] 22
noncomputable def fns_spec_wiNearer {ρ : Type} : List (FnCl ρ) := [C_spec_l1Abs]
theorem fs_spec_wiNearer {ρ : Type} : ∀ c ∈ fns_spec_wiNearer (ρ := ρ), FnSound Try.prog c := (fs_cons S_spec_l1Abs fs_nil)
noncomputable def lp_spec_wiNearer_0 {ρ : Type} : List (LpEnt ρ) := []
theorem ls_spec_wiNearer_0 {ρ : Type} : LpEnts Try.prog st_spec_wiNearer (lp_spec_wiNearer_0 (ρ := ρ)) := fun _ h => nomatch h
noncomputable def C_spec_wiNearer {ρ : Type} : FnCl ρ := fnC 55 (lCons (cInt .i64) (lOne (cInt .i64))) lNil (fun (e : Bool) => (((.bool e) : PV), ([] : List PV))) (fun a o K => spec_wiNearer a.1 a.2 (fun r0 => K r0))
theorem S_spec_wiNearer {ρ : Type} : FnSound Try.prog (C_spec_wiNearer (ρ := ρ)) := fn_sound (st_ok _ _ _) fs_spec_wiNearer ls_spec_wiNearer_0 (by kernel_rfl) (fn := Try.f55) (by kernel_rfl) (by kernel_rfl) (has_of (by kernel_rfl) has_nil) _ _ _ _ (fun a => by kernel_rfl) (fun a o K => by kernel_rfl)
abbrev st_spec_wiFlat : Sta := stOf [(1, 2, 1), (3, 4, 1), (13, 6, 1), (14, 4, 1)] [] 116
noncomputable def fns_spec_wiFlat {ρ : Type} : List (FnCl ρ) := [C_spec_wiLeast, C_spec_mvFull, C_spec_l1Abs, C_spec_wiNearer, C_spec_wiRange]
theorem fs_spec_wiFlat {ρ : Type} : ∀ c ∈ fns_spec_wiFlat (ρ := ρ), FnSound Try.prog c := (fs_cons S_spec_wiLeast (fs_cons S_spec_mvFull (fs_cons S_spec_l1Abs (fs_cons S_spec_wiNearer (fs_cons S_spec_wiRange fs_nil)))))
noncomputable def lp_spec_wiFlat_0 {ρ : Type} : List (LpEnt ρ) := []
theorem ls_spec_wiFlat_0 {ρ : Type} : LpEnts Try.prog st_spec_wiFlat (lp_spec_wiFlat_0 (ρ := ρ)) := fun _ h => nomatch h
noncomputable def B_spec_wiFlat_6 : Code := (loopsOf (bodyOf Try.f31)).getD 0 .skip
def ci_spec_wiFlat_6 : CodS ((List (Int × Int)) × (Int × Int × Int × Int × Int × Int) × Int × Int × Int × Int × (Int × Int × Int × Int × Int × Int) × Int) := ⟨[0, 4, 10, 12, 14, 16, 18, 20], (lCons (cSl 0 (.p (.i .i64) (.i .i64))) (lCons (cBox (lCons (cInt .i64) (lCons (cInt .i64) (lCons (cInt .i64) (lCons (cInt .i64) (lCons (cInt .i64) (lOne (cInt .i64)))))))) (lCons (cInt .i64) (lCons (cInt .i64) (lCons (cInt .i64) (lCons (cInt .i64) (lCons (cBox (lCons (cInt .i64) (lCons (cInt .i64) (lCons (cInt .i64) (lCons (cInt .i64) (lCons (cInt .i64) (lOne (cInt .i64)))))))) (lOne (cInt .i64)))))))))⟩
def xe_spec_wiFlat_6 {ρ : Type} (K : X → St → Option ρ) : (((List (Int × Int)) × (Int × Int × Int × Int × Int × Int) × Int × Int × Int × Int × Int × Int × Int × Int)) → Option ρ := (fun x => K (.exit 0) (Go.VI.mk [(0, (.sl 0 (.p (.i .i64) (.i .i64)) x.1)), (4, (.box [(.int .i64 x.2.1.1), (.int .i64 x.2.1.2.1), (.int .i64 x.2.1.2.2.1), (.int .i64 x.2.1.2.2.2.1), (.int .i64 x.2.1.2.2.2.2.1), (.int .i64 x.2.1.2.2.2.2.2)])), (10, (.int .i64 x.2.2.1)), (12, (.int .i64 x.2.2.2.1)), (18, (.box [(.int .i64 x.2.2.2.2.1), (.int .i64 x.2.2.2.2.2.1), (.int .i64 x.2.2.2.2.2.2.1), (.int .i64 x.2.2.2.2.2.2.2.1), (.int .i64 x.2.2.2.2.2.2.2.2.1), (.int .i64 x.2.2.2.2.2.2.2.2.2)]))]))
noncomputable def lp_spec_wiFlat_1 {ρ : Type} : List (LpEnt ρ) := ⟨6, B_spec_wiFlat_6, lpC ci_spec_wiFlat_6 xe_spec_wiFlat_6 (fun v kn ke => spec_wiFlat_R6 v.1 v.2.1 v.2.2.1 v.2.2.2.1 v.2.2.2.2.1 v.2.2.2.2.2.1 v.2.2.2.2.2.2.1 v.2.2.2.2.2.2.2 (fun a0 a1 a2 a3 a4 a5 a6 a7 => kn (a0, a1, a2, a3, a4, a5, a6, a7)) (fun a0 a1 a2 a3 a4 => ke (a0, a1, a2, a3, a4)))⟩ :: lp_spec_wiFlat_0
theorem ls_spec_wiFlat_1 {ρ : Type} : LpEnts Try.prog st_spec_wiFlat (lp_spec_wiFlat_1 (ρ := ρ)) := loop_more (st_ok _ _ _) fs_spec_wiFlat ls_spec_wiFlat_0 (by kernel_rfl) (has_of (by kernel_rfl) has_nil) ci_spec_wiFlat_6 [0, 4, 10, 12, 18] xe_spec_wiFlat_6 (fun v kn ke => spec_wiFlat_R6 v.1 v.2.1 v.2.2.1 v.2.2.2.1 v.2.2.2.2.1 v.2.2.2.2.2.1 v.2.2.2.2.2.2.1 v.2.2.2.2.2.2.2 (fun a0 a1 a2 a3 a4 a5 a6 a7 => kn (a0, a1, a2, a3, a4, a5, a6, a7)) (fun a0 a1 a2 a3 a4 => ke (a0, a1, a2, a3, a4))) (fun v => by kernel_rfl) (fun v KN KE => by kernel_rfl) 6
noncomputable def C_spec_wiFlat {ρ : Type} : FnCl ρ := fnC 31 (lOne (cSl 0 (.p (.i .i64) (.i .i64)))) lNil (fun (e : Int × Int × Int × Int × Int × Int) => (((.agg [(.int .i64 e.1), (.int .i64 e.2.1), (.int .i64 e.2.2.1), (.int .i64 e.2.2.2.1), (.int .i64 e.2.2.2.2.1), (.int .i64 e.2.2.2.2.2)]) : PV), ([] : List PV))) (fun a o K => spec_wiFlat a (fun r0 => K r0))
theorem S_spec_wiFlat {ρ : Type} : FnSound Try.prog (C_spec_wiFlat (ρ := ρ)) := fn_sound (st_ok _ _ _) fs_spec_wiFlat ls_spec_wiFlat_1 (by kernel_rfl) (fn := Try.f31) (by kernel_rfl) (by kernel_rfl) (has_of (by kernel_rfl) (has_cons (c := B_spec_wiFlat_6) 0 (by kernel_rfl) has_nil)) _ _ _ _ (fun a => by kernel_rfl) (fun a o K => by kernel_rfl)
abbrev st_spec_l1All : Sta := stOf [] [] 21
noncomputable def fns_spec_l1All {ρ : Type} : List (FnCl ρ) := [C_spec_l1In]
theorem fs_spec_l1All {ρ : Type} : ∀ c ∈ fns_spec_l1All (ρ := ρ), FnSound Try.prog c := (fs_cons S_spec_l1In fs_nil)
noncomputable def lp_spec_l1All_0 {ρ : Type} : List (LpEnt ρ) := []
theorem ls_spec_l1All_0 {ρ : Type} : LpEnts Try.prog st_spec_l1All (lp_spec_l1All_0 (ρ := ρ)) := fun _ h => nomatch h
noncomputable def B_spec_l1All_2 : Code := (loopsOf (bodyOf Try.f78)).getD 0 .skip
def ci_spec_l1All_2 : CodS (Int × Int × (List Int) × Int × Int) := ⟨[2, 4, 18, 20, 22], (lCons (cInt .i64) (lCons (cInt .i64) (lCons (cSl 0 (.i .i64)) (lCons (cInt .i64) (lOne (cInt .i64))))))⟩
def xe_spec_l1All_2 {ρ : Type} (K : X → St → Option ρ) : (Bool ⊕ Unit) → Option ρ := (Sum.elim (fun x => K .ret (Go.VI.mk [(12, (.bool x))])) (fun _ => K (.exit 0) (Go.VI.mk [(12, .undef)])))
noncomputable def lp_spec_l1All_1 {ρ : Type} : List (LpEnt ρ) := ⟨2, B_spec_l1All_2, lpC ci_spec_l1All_2 xe_spec_l1All_2 (fun v kn ke => spec_l1All_R2 v.1 v.2.1 v.2.2.1 v.2.2.2.1 v.2.2.2.2 (fun a0 a1 a2 a3 a4 => kn (a0, a1, a2, a3, a4)) (fun a0 => ke (.inl a0)) (ke (.inr ())))⟩ :: lp_spec_l1All_0
theorem ls_spec_l1All_1 {ρ : Type} : LpEnts Try.prog st_spec_l1All (lp_spec_l1All_1 (ρ := ρ)) := loop_more (st_ok _ _ _) fs_spec_l1All ls_spec_l1All_0 (by kernel_rfl) (has_of (by kernel_rfl) has_nil) ci_spec_l1All_2 [12] xe_spec_l1All_2 (fun v kn ke => spec_l1All_R2 v.1 v.2.1 v.2.2.1 v.2.2.2.1 v.2.2.2.2 (fun a0 a1 a2 a3 a4 => kn (a0, a1, a2, a3, a4)) (fun a0 => ke (.inl a0)) (ke (.inr ()))) (fun v => by kernel_rfl) (fun v KN KE => by kernel_rfl) 2
noncomputable def C_spec_l1All {ρ : Type} : FnCl ρ := fnC 78 (lCons (cSl 0 (.i .i64)) (lCons (cInt .i64) (lOne (cInt .i64)))) lNil (fun (e : Bool) => (((.bool e) : PV), ([] : List PV))) (fun a o K => spec_l1All a.1 a.2.1 a.2.2 (fun r0 => K r0))
theorem S_spec_l1All {ρ : Type} : FnSound Try.prog (C_spec_l1All (ρ := ρ)) := fn_sound (st_ok _ _ _) fs_spec_l1All ls_spec_l1All_1 (by kernel_rfl) (fn := Try.f78) (by kernel_rfl) (by kernel_rfl) (has_of (by kernel_rfl) (has_cons (c := B_spec_l1All_2) 0 (by kernel_rfl) has_nil)) _ _ _ _ (fun a => by kernel_rfl) (fun a o K => by kernel_rfl)
abbrev st_spec_mvGood : Sta := stOf [] [] 36
noncomputable def fns_spec_mvGood {ρ : Type} : List (FnCl ρ) := [C_spec_l1All, C_spec_l1Abs]
theorem fs_spec_mvGood {ρ : Type} : ∀ c ∈ fns_spec_mvGood (ρ := ρ), FnSound Try.prog c := (fs_cons S_spec_l1All (fs_cons S_spec_l1Abs fs_nil))
noncomputable def lp_spec_mvGood_0 {ρ : Type} : List (LpEnt ρ) := []
theorem ls_spec_mvGood_0 {ρ : Type} : LpEnts Try.prog st_spec_mvGood (lp_spec_mvGood_0 (ρ := ρ)) := fun _ h => nomatch h
noncomputable def C_spec_mvGood {ρ : Type} : FnCl ρ := fnC 52 (lOne (cAgg (lCons (cInt .i64) (lCons (cInt .i64) (lCons (cInt .i64) (lCons (cInt .i64) (lCons (cInt .i64) (lOne (cInt .i64))))))))) lNil (fun (e : Bool) => (((.bool e) : PV), ([] : List PV))) (fun a o K => spec_mvGood a (fun r0 => K r0))
theorem S_spec_mvGood {ρ : Type} : FnSound Try.prog (C_spec_mvGood (ρ := ρ)) := fn_sound (st_ok _ _ _) fs_spec_mvGood ls_spec_mvGood_0 (by kernel_rfl) (fn := Try.f52) (by kernel_rfl) (by kernel_rfl) (has_of (by kernel_rfl) has_nil) _ _ _ _ (fun a => by kernel_rfl) (fun a o K => by kernel_rfl)
abbrev st_spec_mvIf : Sta := stOf [] [] 9
noncomputable def fns_spec_mvIf {ρ : Type} : List (FnCl ρ) := [C_spec_mvGood]
theorem fs_spec_mvIf {ρ : Type} : ∀ c ∈ fns_spec_mvIf (ρ := ρ), FnSound Try.prog c := (fs_cons S_spec_mvGood fs_nil)
noncomputable def lp_spec_mvIf_0 {ρ : Type} : List (LpEnt ρ) := []
theorem ls_spec_mvIf_0 {ρ : Type} : LpEnts Try.prog st_spec_mvIf (lp_spec_mvIf_0 (ρ := ρ)) := fun _ h => nomatch h
noncomputable def C_spec_mvIf {ρ : Type} : FnCl ρ := fnC 30 (lOne (cAgg (lCons (cInt .i64) (lCons (cInt .i64) (lCons (cInt .i64) (lCons (cInt .i64) (lCons (cInt .i64) (lOne (cInt .i64))))))))) lNil (fun (e : (Int × Int × Int × Int × Int × Int) × Bool) => (((.tup [(.agg [(.int .i64 e.1.1), (.int .i64 e.1.2.1), (.int .i64 e.1.2.2.1), (.int .i64 e.1.2.2.2.1), (.int .i64 e.1.2.2.2.2.1), (.int .i64 e.1.2.2.2.2.2)]), (.bool e.2)]) : PV), ([] : List PV))) (fun a o K => spec_mvIf a (fun r0 r1 => K (r0, r1)))
theorem S_spec_mvIf {ρ : Type} : FnSound Try.prog (C_spec_mvIf (ρ := ρ)) := fn_sound (st_ok _ _ _) fs_spec_mvIf ls_spec_mvIf_0 (by kernel_rfl) (fn := Try.f30) (by kernel_rfl) (by kernel_rfl) (has_of (by kernel_rfl) has_nil) _ _ _ _ (fun a => by kernel_rfl) (fun a o K => by kernel_rfl)
abbrev st_spec_FlatMove : Sta := stOf [] [] 13
noncomputable def fns_spec_FlatMove {ρ : Type} : List (FnCl ρ) := [C_spec_pgGood, C_spec_wiFlat, C_spec_mvIf]
theorem fs_spec_FlatMove {ρ : Type} : ∀ c ∈ fns_spec_FlatMove (ρ := ρ), FnSound Try.prog c := (fs_cons S_spec_pgGood (fs_cons S_spec_wiFlat (fs_cons S_spec_mvIf fs_nil)))
noncomputable def lp_spec_FlatMove_0 {ρ : Type} : List (LpEnt ρ) := []
theorem ls_spec_FlatMove_0 {ρ : Type} : LpEnts Try.prog st_spec_FlatMove (lp_spec_FlatMove_0 (ρ := ρ)) := fun _ h => nomatch h
noncomputable def C_spec_FlatMove {ρ : Type} : FnCl ρ := fnC 15 (lOne (cSl 0 (.p (.i .i64) (.i .i64)))) lNil (fun (e : (Int × Int × Int × Int × Int × Int) × Bool) => (((.tup [(.agg [(.int .i64 e.1.1), (.int .i64 e.1.2.1), (.int .i64 e.1.2.2.1), (.int .i64 e.1.2.2.2.1), (.int .i64 e.1.2.2.2.2.1), (.int .i64 e.1.2.2.2.2.2)]), (.bool e.2)]) : PV), ([] : List PV))) (fun a o K => spec_FlatMove a (fun r0 r1 => K (r0, r1)))
theorem S_spec_FlatMove {ρ : Type} : FnSound Try.prog (C_spec_FlatMove (ρ := ρ)) := fn_sound (st_ok _ _ _) fs_spec_FlatMove ls_spec_FlatMove_0 (by kernel_rfl) (fn := Try.f15) (by kernel_rfl) (by kernel_rfl) (has_of (by kernel_rfl) has_nil) _ _ _ _ (fun a => by kernel_rfl) (fun a o K => by kernel_rfl)
abbrev st_impl_bezout : Sta := stOf [] [] 38
noncomputable def fns_impl_bezout {ρ : Type} : List (FnCl ρ) := []
theorem fs_impl_bezout {ρ : Type} : ∀ c ∈ fns_impl_bezout (ρ := ρ), FnSound Try.prog c := fs_nil
noncomputable def lp_impl_bezout_0 {ρ : Type} : List (LpEnt ρ) := []
theorem ls_impl_bezout_0 {ρ : Type} : LpEnts Try.prog st_impl_bezout (lp_impl_bezout_0 (ρ := ρ)) := fun _ h => nomatch h
noncomputable def B_impl_bezout_2 : Code := (loopsOf (bodyOf Try.f58)).getD 0 .skip
def ci_impl_bezout_2 : CodS (Int × Int × Int × Int × Int × Int) := ⟨[0, 2, 14, 16, 18, 20], (lCons (cInt .i64) (lCons (cInt .i64) (lCons (cInt .i64) (lCons (cInt .i64) (lCons (cInt .i64) (lOne (cInt .i64)))))))⟩
def xe_impl_bezout_2 {ρ : Type} (K : X → St → Option ρ) : ((Int × Int × Int)) → Option ρ := (fun x => K (.exit 0) (Go.VI.mk [(0, (.int .i64 x.1)), (14, (.int .i64 x.2.1)), (16, (.int .i64 x.2.2))]))
noncomputable def lp_impl_bezout_1 {ρ : Type} : List (LpEnt ρ) := ⟨2, B_impl_bezout_2, lpC ci_impl_bezout_2 xe_impl_bezout_2 (fun v kn ke => impl_bezout_R2 v.1 v.2.1 v.2.2.1 v.2.2.2.1 v.2.2.2.2.1 v.2.2.2.2.2 (fun a0 a1 a2 a3 a4 a5 => kn (a0, a1, a2, a3, a4, a5)) (fun a0 a1 a2 => ke (a0, a1, a2)))⟩ :: lp_impl_bezout_0
theorem ls_impl_bezout_1 {ρ : Type} : LpEnts Try.prog st_impl_bezout (lp_impl_bezout_1 (ρ := ρ)) := loop_more (st_ok _ _ _) fs_impl_bezout ls_impl_bezout_0 (by kernel_rfl) (has_of (by kernel_rfl) has_nil) ci_impl_bezout_2 [0, 14, 16] xe_impl_bezout_2 (fun v kn ke => impl_bezout_R2 v.1 v.2.1 v.2.2.1 v.2.2.2.1 v.2.2.2.2.1 v.2.2.2.2.2 (fun a0 a1 a2 a3 a4 a5 => kn (a0, a1, a2, a3, a4, a5)) (fun a0 a1 a2 => ke (a0, a1, a2))) (fun v => by kernel_rfl) (fun v KN KE => by kernel_rfl) 2
noncomputable def C_impl_bezout {ρ : Type} : FnCl ρ := fnC 58 (lCons (cInt .i64) (lOne (cInt .i64))) lNil (fun (e : Int × Int × Int) => (((.tup [(.int .i64 e.1), (.int .i64 e.2.1), (.int .i64 e.2.2)]) : PV), ([] : List PV))) (fun a o K => impl_bezout a.1 a.2 (fun r0 r1 r2 => K (r0, r1, r2)))
theorem S_impl_bezout {ρ : Type} : FnSound Try.prog (C_impl_bezout (ρ := ρ)) := fn_sound (st_ok _ _ _) fs_impl_bezout ls_impl_bezout_1 (by kernel_rfl) (fn := Try.f58) (by kernel_rfl) (by kernel_rfl) (has_of (by kernel_rfl) (has_cons (c := B_impl_bezout_2) 0 (by kernel_rfl) has_nil)) _ _ _ _ (fun a => by kernel_rfl) (fun a o K => by kernel_rfl)
abbrev st_impl_isLess : Sta := stOf [] [] 22
noncomputable def fns_impl_isLess {ρ : Type} : List (FnCl ρ) := [C_impl_size]
theorem fs_impl_isLess {ρ : Type} : ∀ c ∈ fns_impl_isLess (ρ := ρ), FnSound Try.prog c := (fs_cons S_impl_size fs_nil)
noncomputable def lp_impl_isLess_0 {ρ : Type} : List (LpEnt ρ) := []
theorem ls_impl_isLess_0 {ρ : Type} : LpEnts Try.prog st_impl_isLess (lp_impl_isLess_0 (ρ := ρ)) := fun _ h => nomatch h
noncomputable def C_impl_isLess {ρ : Type} : FnCl ρ := fnC 59 (lCons (cInt .i64) (lOne (cInt .i64))) lNil (fun (e : Bool) => (((.bool e) : PV), ([] : List PV))) (fun a o K => impl_isLess a.1 a.2 (fun r0 => K r0))
theorem S_impl_isLess {ρ : Type} : FnSound Try.prog (C_impl_isLess (ρ := ρ)) := fn_sound (st_ok _ _ _) fs_impl_isLess ls_impl_isLess_0 (by kernel_rfl) (fn := Try.f59) (by kernel_rfl) (by kernel_rfl) (has_of (by kernel_rfl) has_nil) _ _ _ _ (fun a => by kernel_rfl) (fun a o K => by kernel_rfl)
abbrev st_impl_Move_bring : Sta := stOf [] [] 34
noncomputable def fns_impl_Move_bring {ρ : Type} : List (FnCl ρ) := []
theorem fs_impl_Move_bring {ρ : Type} : ∀ c ∈ fns_impl_Move_bring (ρ := ρ), FnSound Try.prog c := fs_nil
noncomputable def lp_impl_Move_bring_0 {ρ : Type} : List (LpEnt ρ) := []
theorem ls_impl_Move_bring_0 {ρ : Type} : LpEnts Try.prog st_impl_Move_bring (lp_impl_Move_bring_0 (ρ := ρ)) := fun _ h => nomatch h
noncomputable def C_impl_Move_bring {ρ : Type} : FnCl ρ := fnC 36 (lCons (cAgg (lCons (cInt .i64) (lCons (cInt .i64) (lCons (cInt .i64) (lCons (cInt .i64) (lCons (cInt .i64) (lOne (cInt .i64)))))))) (lOne (cAgg (lCons (cInt .i64) (lOne (cInt .i64)))))) lNil (fun (e : Int × Int) => (((.agg [(.int .i64 e.1), (.int .i64 e.2)]) : PV), ([] : List PV))) (fun a o K => impl_Move_bring a.1 a.2 (fun r0 => K r0))
theorem S_impl_Move_bring {ρ : Type} : FnSound Try.prog (C_impl_Move_bring (ρ := ρ)) := fn_sound (st_ok _ _ _) fs_impl_Move_bring ls_impl_Move_bring_0 (by kernel_rfl) (fn := Try.f36) (by kernel_rfl) (by kernel_rfl) (has_of (by kernel_rfl) has_nil) _ _ _ _ (fun a => by kernel_rfl) (fun a o K => by kernel_rfl)
end Go.Proofs.Ga

namespace Go.Proofs.Ga
open Go.VI
abbrev st_impl_box : Sta := stOf [] [] 45
noncomputable def fns_impl_box {ρ : Type} : List (FnCl ρ) := []
theorem fs_impl_box {ρ : Type} : ∀ c ∈ fns_impl_box (ρ := ρ), FnSound Try.prog c := fs_nil
noncomputable def lp_impl_box_0 {ρ : Type} : List (LpEnt ρ) := []
theorem ls_impl_box_0 {ρ : Type} : LpEnts Try.prog st_impl_box (lp_impl_box_0 (ρ := ρ)) := fun _ h => nomatch h
noncomputable def B_impl_box_3 : Code := (loopsOf (bodyOf Try.f60)).getD 0 .skip
def ci_impl_box_3 : CodS ((Int × Int) × (Int × Int) × (Int × Int) × (Int × Int) × (List (Int × Int)) × Int × Int) := ⟨[4, 6, 8, 10, 28, 30, 32], (lCons (cBox (lCons (cInt .i64) (lOne (cInt .i64)))) (lCons (cBox (lCons (cInt .i64) (lOne (cInt .i64)))) (lCons (cBox (lCons (cInt .i64) (lOne (cInt .i64)))) (lCons (cBox (lCons (cInt .i64) (lOne (cInt .i64)))) (lCons (cSl 0 (.p (.i .i64) (.i .i64))) (lCons (cInt .i64) (lOne (cInt .i64))))))))⟩
def xe_impl_box_3 {ρ : Type} (K : X → St → Option ρ) : (((Int × Int) × (Int × Int) × (Int × Int) × Int × Int)) → Option ρ := (fun x => K (.exit 0) (Go.VI.mk [(4, (.box [(.int .i64 x.1.1), (.int .i64 x.1.2)])), (6, (.box [(.int .i64 x.2.1.1), (.int .i64 x.2.1.2)])), (8, (.box [(.int .i64 x.2.2.1.1), (.int .i64 x.2.2.1.2)])), (10, (.box [(.int .i64 x.2.2.2.1), (.int .i64 x.2.2.2.2)]))]))
noncomputable def lp_impl_box_1 {ρ : Type} : List (LpEnt ρ) := ⟨3, B_impl_box_3, lpC ci_impl_box_3 xe_impl_box_3 (fun v kn ke => impl_box_R3 v.1 v.2.1 v.2.2.1 v.2.2.2.1 v.2.2.2.2.1 v.2.2.2.2.2.1 v.2.2.2.2.2.2 (fun a0 a1 a2 a3 a4 a5 a6 => kn (a0, a1, a2, a3, a4, a5, a6)) (fun a0 a1 a2 a3 => ke (a0, a1, a2, a3)))⟩ :: lp_impl_box_0
theorem ls_impl_box_1 {ρ : Type} : LpEnts Try.prog st_impl_box (lp_impl_box_1 (ρ := ρ)) := loop_more (st_ok _ _ _) fs_impl_box ls_impl_box_0 (by kernel_rfl) (has_of (by kernel_rfl) has_nil) ci_impl_box_3 [4, 6, 8, 10] xe_impl_box_3 (fun v kn ke => impl_box_R3 v.1 v.2.1 v.2.2.1 v.2.2.2.1 v.2.2.2.2.1 v.2.2.2.2.2.1 v.2.2.2.2.2.2 (fun a0 a1 a2 a3 a4 a5 a6 => kn (a0, a1, a2, a3, a4, a5, a6)) (fun a0 a1 a2 a3 => ke (a0, a1, a2, a3))) (fun v => by kernel_rfl) (fun v KN KE => by kernel_rfl) 3
noncomputable def C_impl_box {ρ : Type} : FnCl ρ := fnC 60 (lOne (cSl 0 (.p (.i .i64) (.i .i64)))) lNil (fun (e : (Int × Int) × Int × Int) => (((.tup [(.agg [(.int .i64 e.1.1), (.int .i64 e.1.2)]), (.agg [(.int .i64 e.2.1), (.int .i64 e.2.2)])]) : PV), ([] : List PV))) (fun a o K => impl_box a (fun r0 r1 => K (r0, r1)))
theorem S_impl_box {ρ : Type} : FnSound Try.prog (C_impl_box (ρ := ρ)) := fn_sound (st_ok _ _ _) fs_impl_box ls_impl_box_1 (by kernel_rfl) (fn := Try.f60) (by kernel_rfl) (by kernel_rfl) (has_of (by kernel_rfl) (has_cons (c := B_impl_box_3) 0 (by kernel_rfl) has_nil)) _ _ _ _ (fun a => by kernel_rfl) (fun a o K => by kernel_rfl)
abbrev st_impl_flatMove : Sta := stOf [(1, 2, 1), (3, 5, 1), (17, 0, 1), (19, 0, 1), (19, 2, 1)] [] 119
noncomputable def fns_impl_flatMove {ρ : Type} : List (FnCl ρ) := [C_impl_least, C_impl_bezout, C_impl_isLess, C_impl_Move_bring, C_impl_box]
theorem fs_impl_flatMove {ρ : Type} : ∀ c ∈ fns_impl_flatMove (ρ := ρ), FnSound Try.prog c := (fs_cons S_impl_least (fs_cons S_impl_bezout (fs_cons S_impl_isLess (fs_cons S_impl_Move_bring (fs_cons S_impl_box fs_nil)))))
noncomputable def lp_impl_flatMove_0 {ρ : Type} : List (LpEnt ρ) := []
theorem ls_impl_flatMove_0 {ρ : Type} : LpEnts Try.prog st_impl_flatMove (lp_impl_flatMove_0 (ρ := ρ)) := fun _ h => nomatch h
noncomputable def B_impl_flatMove_7 : Code := (loopsOf (bodyOf Try.f33)).getD 0 .skip
noncomputable def B_impl_flatMove_15 : Code := (loopsOf (bodyOf Try.f33)).getD 1 .skip
def ci_impl_flatMove_7 : CodS ((List (Int × Int)) × (Int × Int × Int × Int × Int × Int) × (Int × Int × Int × Int × Int × Int) × (Int × Int × Int × Int × Int × Int) × Int) := ⟨[0, 4, 10, 18, 20], (lCons (cSl 0 (.p (.i .i64) (.i .i64))) (lCons (cBox (lCons (cInt .i64) (lCons (cInt .i64) (lCons (cInt .i64) (lCons (cInt .i64) (lCons (cInt .i64) (lOne (cInt .i64)))))))) (lCons (cBox (lCons (cInt .i64) (lCons (cInt .i64) (lCons (cInt .i64) (lCons (cInt .i64) (lCons (cInt .i64) (lOne (cInt .i64)))))))) (lCons (cBox (lCons (cInt .i64) (lCons (cInt .i64) (lCons (cInt .i64) (lCons (cInt .i64) (lCons (cInt .i64) (lOne (cInt .i64)))))))) (lOne (cInt .i64))))))⟩
def xe_impl_flatMove_7 {ρ : Type} (K : X → St → Option ρ) : (((List (Int × Int)) × (Int × Int × Int × Int × Int × Int) × Int × Int × Int × Int × Int × Int)) → Option ρ := (fun x => K (.exit 0) (Go.VI.mk [(0, (.sl 0 (.p (.i .i64) (.i .i64)) x.1)), (4, (.box [(.int .i64 x.2.1.1), (.int .i64 x.2.1.2.1), (.int .i64 x.2.1.2.2.1), (.int .i64 x.2.1.2.2.2.1), (.int .i64 x.2.1.2.2.2.2.1), (.int .i64 x.2.1.2.2.2.2.2)])), (18, (.box [(.int .i64 x.2.2.1), (.int .i64 x.2.2.2.1), (.int .i64 x.2.2.2.2.1), (.int .i64 x.2.2.2.2.2.1), (.int .i64 x.2.2.2.2.2.2.1), (.int .i64 x.2.2.2.2.2.2.2)]))]))
noncomputable def lp_impl_flatMove_1 {ρ : Type} : List (LpEnt ρ) := ⟨7, B_impl_flatMove_7, lpC ci_impl_flatMove_7 xe_impl_flatMove_7 (fun v kn ke => impl_flatMove_R7 v.1 v.2.1 v.2.2.1 v.2.2.2.1 v.2.2.2.2 (fun a0 a1 a2 a3 a4 => kn (a0, a1, a2, a3, a4)) (fun a0 a1 a2 => ke (a0, a1, a2)))⟩ :: lp_impl_flatMove_0
theorem ls_impl_flatMove_1 {ρ : Type} : LpEnts Try.prog st_impl_flatMove (lp_impl_flatMove_1 (ρ := ρ)) := loop_more (st_ok _ _ _) fs_impl_flatMove ls_impl_flatMove_0 (by kernel_rfl) (has_of (by kernel_rfl) has_nil) ci_impl_flatMove_7 [0, 4, 18] xe_impl_flatMove_7 (fun v kn ke => impl_flatMove_R7 v.1 v.2.1 v.2.2.1 v.2.2.2.1 v.2.2.2.2 (fun a0 a1 a2 a3 a4 => kn (a0, a1, a2, a3, a4)) (fun a0 a1 a2 => ke (a0, a1, a2))) (fun v => by kernel_rfl) (fun v KN KE => by kernel_rfl) 7
def ci_impl_flatMove_15 : CodS ((Int × Int × Int × Int × Int × Int) × (Int × Int × Int × Int × Int × Int) × (List (Int × Int)) × (List (Int × Int)) × Int × Int) := ⟨[4, 18, 24, 184, 186, 188], (lCons (cBox (lCons (cInt .i64) (lCons (cInt .i64) (lCons (cInt .i64) (lCons (cInt .i64) (lCons (cInt .i64) (lOne (cInt .i64)))))))) (lCons (cBox (lCons (cInt .i64) (lCons (cInt .i64) (lCons (cInt .i64) (lCons (cInt .i64) (lCons (cInt .i64) (lOne (cInt .i64)))))))) (lCons (cSl 1 (.p (.i .i64) (.i .i64))) (lCons (cSl 0 (.p (.i .i64) (.i .i64))) (lCons (cInt .i64) (lOne (cInt .i64)))))))⟩
def xe_impl_flatMove_15 {ρ : Type} (K : X → St → Option ρ) : (((Int × Int × Int × Int × Int × Int) × (Int × Int × Int × Int × Int × Int) × List (Int × Int))) → Option ρ := (fun x => K (.exit 2) (Go.VI.mk [(4, (.box [(.int .i64 x.1.1), (.int .i64 x.1.2.1), (.int .i64 x.1.2.2.1), (.int .i64 x.1.2.2.2.1), (.int .i64 x.1.2.2.2.2.1), (.int .i64 x.1.2.2.2.2.2)])), (18, (.box [(.int .i64 x.2.1.1), (.int .i64 x.2.1.2.1), (.int .i64 x.2.1.2.2.1), (.int .i64 x.2.1.2.2.2.1), (.int .i64 x.2.1.2.2.2.2.1), (.int .i64 x.2.1.2.2.2.2.2)])), (24, (.sl 1 (.p (.i .i64) (.i .i64)) x.2.2))]))
noncomputable def lp_impl_flatMove_2 {ρ : Type} : List (LpEnt ρ) := ⟨15, B_impl_flatMove_15, lpC ci_impl_flatMove_15 xe_impl_flatMove_15 (fun v kn ke => impl_flatMove_R15 v.1 v.2.1 v.2.2.1 v.2.2.2.1 v.2.2.2.2.1 v.2.2.2.2.2 (fun a0 a1 a2 a3 a4 a5 => kn (a0, a1, a2, a3, a4, a5)) (fun a0 a1 a2 => ke (a0, a1, a2)))⟩ :: lp_impl_flatMove_1
theorem ls_impl_flatMove_2 {ρ : Type} : LpEnts Try.prog st_impl_flatMove (lp_impl_flatMove_2 (ρ := ρ)) := loop_more (st_ok _ _ _) fs_impl_flatMove ls_impl_flatMove_1 (by kernel_rfl) (has_of (by kernel_rfl) has_nil) ci_impl_flatMove_15 [4, 18, 24] xe_impl_flatMove_15 (fun v kn ke => impl_flatMove_R15 v.1 v.2.1 v.2.2.1 v.2.2.2.1 v.2.2.2.2.1 v.2.2.2.2.2 (fun a0 a1 a2 a3 a4 a5 => kn (a0, a1, a2, a3, a4, a5)) (fun a0 a1 a2 => ke (a0, a1, a2))) (fun v => by kernel_rfl) (fun v KN KE => by kernel_rfl) 15
noncomputable def C_impl_flatMove {ρ : Type} : FnCl ρ := fnC 33 (lOne (cSl 0 (.p (.i .i64) (.i .i64)))) lNil (fun (e : Int × Int × Int × Int × Int × Int) => (((.agg [(.int .i64 e.1), (.int .i64 e.2.1), (.int .i64 e.2.2.1), (.int .i64 e.2.2.2.1), (.int .i64 e.2.2.2.2.1), (.int .i64 e.2.2.2.2.2)]) : PV), ([] : List PV))) (fun a o K => impl_flatMove a (fun r0 => K r0))
theorem S_impl_flatMove {ρ : Type} : FnSound Try.prog (C_impl_flatMove (ρ := ρ)) := fn_sound (st_ok _ _ _) fs_impl_flatMove ls_impl_flatMove_2 (by kernel_rfl) (fn := Try.f33) (by kernel_rfl) (by kernel_rfl) (has_of (by kernel_rfl) (has_cons (c := B_impl_flatMove_7) 1 (by kernel_rfl) (has_cons (c := B_impl_flatMove_15) 0 (by kernel_rfl) has_nil))) _ _ _ _ (fun a => by kernel_rfl) (fun a o K => by kernel_rfl)
abbrev st_impl_isWay : Sta := stOf [] [] 21
noncomputable def fns_impl_isWay {ρ : Type} : List (FnCl ρ) := [C_impl_size]
theorem fs_impl_isWay {ρ : Type} : ∀ c ∈ fns_impl_isWay (ρ := ρ), FnSound Try.prog c := (fs_cons S_impl_size fs_nil)
noncomputable def lp_impl_isWay_0 {ρ : Type} : List (LpEnt ρ) := []
theorem ls_impl_isWay_0 {ρ : Type} : LpEnts Try.prog st_impl_isWay (lp_impl_isWay_0 (ρ := ρ)) := fun _ h => nomatch h
noncomputable def C_impl_isWay {ρ : Type} : FnCl ρ := fnC 81 (lCons (cInt .i64) (lOne (cInt .i64))) lNil (fun (e : Bool) => (((.bool e) : PV), ([] : List PV))) (fun a o K => impl_isWay a.1 a.2 (fun r0 => K r0))
theorem S_impl_isWay {ρ : Type} : FnSound Try.prog (C_impl_isWay (ρ := ρ)) := fn_sound (st_ok _ _ _) fs_impl_isWay ls_impl_isWay_0 (by kernel_rfl) (fn := Try.f81) (by kernel_rfl) (by kernel_rfl) (has_of (by kernel_rfl) has_nil) _ _ _ _ (fun a => by kernel_rfl) (fun a o K => by kernel_rfl)
abbrev st_impl_Move_side : Sta := stOf [] [] 14
noncomputable def fns_impl_Move_side {ρ : Type} : List (FnCl ρ) := []
theorem fs_impl_Move_side {ρ : Type} : ∀ c ∈ fns_impl_Move_side (ρ := ρ), FnSound Try.prog c := fs_nil
noncomputable def lp_impl_Move_side_0 {ρ : Type} : List (LpEnt ρ) := []
theorem ls_impl_Move_side_0 {ρ : Type} : LpEnts Try.prog st_impl_Move_side (lp_impl_Move_side_0 (ρ := ρ)) := fun _ h => nomatch h
noncomputable def C_impl_Move_side {ρ : Type} : FnCl ρ := fnC 83 (lOne (cAgg (lCons (cInt .i64) (lCons (cInt .i64) (lCons (cInt .i64) (lCons (cInt .i64) (lCons (cInt .i64) (lOne (cInt .i64))))))))) lNil (fun (e : Int) => (((.int .i64 e) : PV), ([] : List PV))) (fun a o K => impl_Move_side a (fun r0 => K r0))
theorem S_impl_Move_side {ρ : Type} : FnSound Try.prog (C_impl_Move_side (ρ := ρ)) := fn_sound (st_ok _ _ _) fs_impl_Move_side ls_impl_Move_side_0 (by kernel_rfl) (fn := Try.f83) (by kernel_rfl) (by kernel_rfl) (has_of (by kernel_rfl) has_nil) _ _ _ _ (fun a => by kernel_rfl) (fun a o K => by kernel_rfl)
abbrev st_impl_IsMove : Sta := stOf [] [] 34
noncomputable def fns_impl_IsMove {ρ : Type} : List (FnCl ρ) := [C_impl_within, C_impl_isWay, C_impl_Move_side, C_impl_size]
theorem fs_impl_IsMove {ρ : Type} : ∀ c ∈ fns_impl_IsMove (ρ := ρ), FnSound Try.prog c := (fs_cons S_impl_within (fs_cons S_impl_isWay (fs_cons S_impl_Move_side (fs_cons S_impl_size fs_nil))))
noncomputable def lp_impl_IsMove_0 {ρ : Type} : List (LpEnt ρ) := []
theorem ls_impl_IsMove_0 {ρ : Type} : LpEnts Try.prog st_impl_IsMove (lp_impl_IsMove_0 (ρ := ρ)) := fun _ h => nomatch h
noncomputable def B_impl_IsMove_2 : Code := (loopsOf (bodyOf Try.f57)).getD 0 .skip
def ci_impl_IsMove_2 : CodS ((Int × Int × Int × Int × Int × Int) × (List Int) × Int × Int) := ⟨[2, 26, 28, 30], (lCons (cBox (lCons (cInt .i64) (lCons (cInt .i64) (lCons (cInt .i64) (lCons (cInt .i64) (lCons (cInt .i64) (lOne (cInt .i64)))))))) (lCons (cSl 1 (.i .i64)) (lCons (cInt .i64) (lOne (cInt .i64)))))⟩
def xe_impl_IsMove_2 {ρ : Type} (K : X → St → Option ρ) : (((Int × Int × Int × Int × Int × Int) × Bool) ⊕ Int × Int × Int × Int × Int × Int) → Option ρ := (Sum.elim (fun x => K .ret (Go.VI.mk [(2, (.box [(.int .i64 x.1.1), (.int .i64 x.1.2.1), (.int .i64 x.1.2.2.1), (.int .i64 x.1.2.2.2.1), (.int .i64 x.1.2.2.2.2.1), (.int .i64 x.1.2.2.2.2.2)])), (4, (.bool x.2))])) (fun x => K (.exit 0) (Go.VI.mk [(2, (.box [(.int .i64 x.1), (.int .i64 x.2.1), (.int .i64 x.2.2.1), (.int .i64 x.2.2.2.1), (.int .i64 x.2.2.2.2.1), (.int .i64 x.2.2.2.2.2)])), (4, .undef)])))
noncomputable def lp_impl_IsMove_1 {ρ : Type} : List (LpEnt ρ) := ⟨2, B_impl_IsMove_2, lpC ci_impl_IsMove_2 xe_impl_IsMove_2 (fun v kn ke => impl_IsMove_R2 v.1 v.2.1 v.2.2.1 v.2.2.2 (fun a0 a1 a2 a3 => kn (a0, a1, a2, a3)) (fun a0 a1 => ke (.inl (a0, a1))) (fun a0 => ke (.inr a0)))⟩ :: lp_impl_IsMove_0
theorem ls_impl_IsMove_1 {ρ : Type} : LpEnts Try.prog st_impl_IsMove (lp_impl_IsMove_1 (ρ := ρ)) := loop_more (st_ok _ _ _) fs_impl_IsMove ls_impl_IsMove_0 (by kernel_rfl) (has_of (by kernel_rfl) has_nil) ci_impl_IsMove_2 [2, 4] xe_impl_IsMove_2 (fun v kn ke => impl_IsMove_R2 v.1 v.2.1 v.2.2.1 v.2.2.2 (fun a0 a1 a2 a3 => kn (a0, a1, a2, a3)) (fun a0 a1 => ke (.inl (a0, a1))) (fun a0 => ke (.inr a0))) (fun v => by kernel_rfl) (fun v KN KE => by kernel_rfl) 2
noncomputable def C_impl_IsMove {ρ : Type} : FnCl ρ := fnC 57 (lOne (cAgg (lCons (cInt .i64) (lCons (cInt .i64) (lCons (cInt .i64) (lCons (cInt .i64) (lCons (cInt .i64) (lOne (cInt .i64))))))))) lNil (fun (e : Bool) => (((.bool e) : PV), ([] : List PV))) (fun a o K => impl_IsMove a (fun r0 => K r0))
theorem S_impl_IsMove {ρ : Type} : FnSound Try.prog (C_impl_IsMove (ρ := ρ)) := fn_sound (st_ok _ _ _) fs_impl_IsMove ls_impl_IsMove_1 (by kernel_rfl) (fn := Try.f57) (by kernel_rfl) (by kernel_rfl) (has_of (by kernel_rfl) (has_cons (c := B_impl_IsMove_2) 0 (by kernel_rfl) has_nil)) _ _ _ _ (fun a => by kernel_rfl) (fun a o K => by kernel_rfl)
abbrev st_impl_checkedMove : Sta := stOf [] [] 9
noncomputable def fns_impl_checkedMove {ρ : Type} : List (FnCl ρ) := [C_impl_IsMove]
theorem fs_impl_checkedMove {ρ : Type} : ∀ c ∈ fns_impl_checkedMove (ρ := ρ), FnSound Try.prog c := (fs_cons S_impl_IsMove fs_nil)
noncomputable def lp_impl_checkedMove_0 {ρ : Type} : List (LpEnt ρ) := []
theorem ls_impl_checkedMove_0 {ρ : Type} : LpEnts Try.prog st_impl_checkedMove (lp_impl_checkedMove_0 (ρ := ρ)) := fun _ h => nomatch h
noncomputable def C_impl_checkedMove {ρ : Type} : FnCl ρ := fnC 32 (lOne (cAgg (lCons (cInt .i64) (lCons (cInt .i64) (lCons (cInt .i64) (lCons (cInt .i64) (lCons (cInt .i64) (lOne (cInt .i64))))))))) lNil (fun (e : (Int × Int × Int × Int × Int × Int) × Bool) => (((.tup [(.agg [(.int .i64 e.1.1), (.int .i64 e.1.2.1), (.int .i64 e.1.2.2.1), (.int .i64 e.1.2.2.2.1), (.int .i64 e.1.2.2.2.2.1), (.int .i64 e.1.2.2.2.2.2)]), (.bool e.2)]) : PV), ([] : List PV))) (fun a o K => impl_checkedMove a (fun r0 r1 => K (r0, r1)))
theorem S_impl_checkedMove {ρ : Type} : FnSound Try.prog (C_impl_checkedMove (ρ := ρ)) := fn_sound (st_ok _ _ _) fs_impl_checkedMove ls_impl_checkedMove_0 (by kernel_rfl) (fn := Try.f32) (by kernel_rfl) (by kernel_rfl) (has_of (by kernel_rfl) has_nil) _ _ _ _ (fun a => by kernel_rfl) (fun a o K => by kernel_rfl)
abbrev st_impl_FlatMove : Sta := stOf [] [] 13
noncomputable def fns_impl_FlatMove {ρ : Type} : List (FnCl ρ) := [C_impl_IsPolygon, C_impl_flatMove, C_impl_checkedMove]
theorem fs_impl_FlatMove {ρ : Type} : ∀ c ∈ fns_impl_FlatMove (ρ := ρ), FnSound Try.prog c := (fs_cons S_impl_IsPolygon (fs_cons S_impl_flatMove (fs_cons S_impl_checkedMove fs_nil)))
noncomputable def lp_impl_FlatMove_0 {ρ : Type} : List (LpEnt ρ) := []
theorem ls_impl_FlatMove_0 {ρ : Type} : LpEnts Try.prog st_impl_FlatMove (lp_impl_FlatMove_0 (ρ := ρ)) := fun _ h => nomatch h
noncomputable def C_impl_FlatMove {ρ : Type} : FnCl ρ := fnC 16 (lOne (cSl 0 (.p (.i .i64) (.i .i64)))) lNil (fun (e : (Int × Int × Int × Int × Int × Int) × Bool) => (((.tup [(.agg [(.int .i64 e.1.1), (.int .i64 e.1.2.1), (.int .i64 e.1.2.2.1), (.int .i64 e.1.2.2.2.1), (.int .i64 e.1.2.2.2.2.1), (.int .i64 e.1.2.2.2.2.2)]), (.bool e.2)]) : PV), ([] : List PV))) (fun a o K => impl_FlatMove a (fun r0 r1 => K (r0, r1)))
theorem S_impl_FlatMove {ρ : Type} : FnSound Try.prog (C_impl_FlatMove (ρ := ρ)) := fn_sound (st_ok _ _ _) fs_impl_FlatMove ls_impl_FlatMove_0 (by kernel_rfl) (fn := Try.f16) (by kernel_rfl) (by kernel_rfl) (has_of (by kernel_rfl) has_nil) _ _ _ _ (fun a => by kernel_rfl) (fun a o K => by kernel_rfl)
abbrev st_laws_eqMove : Sta := stOf [] [] 35
noncomputable def fns_laws_eqMove {ρ : Type} : List (FnCl ρ) := []
theorem fs_laws_eqMove {ρ : Type} : ∀ c ∈ fns_laws_eqMove (ρ := ρ), FnSound Try.prog c := fs_nil
noncomputable def lp_laws_eqMove_0 {ρ : Type} : List (LpEnt ρ) := []
theorem ls_laws_eqMove_0 {ρ : Type} : LpEnts Try.prog st_laws_eqMove (lp_laws_eqMove_0 (ρ := ρ)) := fun _ h => nomatch h
noncomputable def C_laws_eqMove {ρ : Type} : FnCl ρ := fnC 17 (lCons (cAgg (lCons (cInt .i64) (lCons (cInt .i64) (lCons (cInt .i64) (lCons (cInt .i64) (lCons (cInt .i64) (lOne (cInt .i64)))))))) (lOne (cAgg (lCons (cInt .i64) (lCons (cInt .i64) (lCons (cInt .i64) (lCons (cInt .i64) (lCons (cInt .i64) (lOne (cInt .i64)))))))))) lNil (fun (e : Bool) => (((.bool e) : PV), ([] : List PV))) (fun a o K => laws_eqMove a.1 a.2 (fun r0 => K r0))
theorem S_laws_eqMove {ρ : Type} : FnSound Try.prog (C_laws_eqMove (ρ := ρ)) := fn_sound (st_ok _ _ _) fs_laws_eqMove ls_laws_eqMove_0 (by kernel_rfl) (fn := Try.f17) (by kernel_rfl) (by kernel_rfl) (has_of (by kernel_rfl) has_nil) _ _ _ _ (fun a => by kernel_rfl) (fun a o K => by kernel_rfl)
abbrev st_laws_FnExactFlatMove : Sta := stOf [(5, 3, 1), (7, 2, 1), (10, 0, 1)] [] 41
noncomputable def fns_laws_FnExactFlatMove {ρ : Type} : List (FnCl ρ) := [C_laws_szPegS, C_laws_toPegS, C_spec_FlatMove, C_impl_FlatMove, C_laws_eqMove, C_laws_eqPegS]
theorem fs_laws_FnExactFlatMove {ρ : Type} : ∀ c ∈ fns_laws_FnExactFlatMove (ρ := ρ), FnSound Try.prog c := (fs_cons S_laws_szPegS (fs_cons S_laws_toPegS (fs_cons S_spec_FlatMove (fs_cons S_impl_FlatMove (fs_cons S_laws_eqMove (fs_cons S_laws_eqPegS fs_nil))))))
noncomputable def lp_laws_FnExactFlatMove_0 {ρ : Type} : List (LpEnt ρ) := []
theorem ls_laws_FnExactFlatMove_0 {ρ : Type} : LpEnts Try.prog st_laws_FnExactFlatMove (lp_laws_FnExactFlatMove_0 (ρ := ρ)) := fun _ h => nomatch h
noncomputable def C_laws_FnExactFlatMove {ρ : Type} : FnCl ρ := fnC 4 (lOne (cSl 0 (.p (.i .i64) (.i .i64)))) lNil (fun (e : Bool) => (((.bool e) : PV), ([] : List PV))) (fun a o K => laws_FnExactFlatMove a (fun r0 => K r0))
theorem S_laws_FnExactFlatMove {ρ : Type} : FnSound Try.prog (C_laws_FnExactFlatMove (ρ := ρ)) := fn_sound (st_ok _ _ _) fs_laws_FnExactFlatMove ls_laws_FnExactFlatMove_0 (by kernel_rfl) (fn := Try.f4) (by kernel_rfl) (by kernel_rfl) (has_of (by kernel_rfl) has_nil) _ _ _ _ (fun a => by kernel_rfl) (fun a o K => by kernel_rfl)
abbrev st_spec_pgMap : Sta := stOf [(8, 0, 1), (10, 0, 1)] [] 58
noncomputable def fns_spec_pgMap {ρ : Type} : List (FnCl ρ) := [C_spec_pgIs]
theorem fs_spec_pgMap {ρ : Type} : ∀ c ∈ fns_spec_pgMap (ρ := ρ), FnSound Try.prog c := (fs_cons S_spec_pgIs fs_nil)
noncomputable def lp_spec_pgMap_0 {ρ : Type} : List (LpEnt ρ) := []
theorem ls_spec_pgMap_0 {ρ : Type} : LpEnts Try.prog st_spec_pgMap (lp_spec_pgMap_0 (ρ := ρ)) := fun _ h => nomatch h
noncomputable def B_spec_pgMap_3 : Code := (loopsOf (bodyOf Try.f61)).getD 0 .skip
def ci_spec_pgMap_3 : CodS (Int × Int × Int × Int × Int × Int × (List (Int × Int)) × (List (Int × Int)) × Int × Int) := ⟨[2, 4, 6, 8, 10, 12, 32, 40, 42, 44], (lCons (cInt .i64) (lCons (cInt .i64) (lCons (cInt .i64) (lCons (cInt .i64) (lCons (cInt .i64) (lCons (cInt .i64) (lCons (cSl 1 (.p (.i .i64) (.i .i64))) (lCons (cSl 0 (.p (.i .i64) (.i .i64))) (lCons (cInt .i64) (lOne (cInt .i64)))))))))))⟩
def xe_spec_pgMap_3 {ρ : Type} (K : X → St → Option ρ) : (((List (Int × Int)) × Bool × List (Int × Int)) ⊕ List (Int × Int)) → Option ρ := (Sum.elim (fun x => K .ret (Go.VI.mk [(28, (.sl 1 (.p (.i .i64) (.i .i64)) x.1)), (30, (.bool x.2.1)), (32, (.sl 1 (.p (.i .i64) (.i .i64)) x.2.2))])) (fun x => K (.exit 0) (Go.VI.mk [(28, .undef), (30, .undef), (32, (.sl 1 (.p (.i .i64) (.i .i64)) x))])))
noncomputable def lp_spec_pgMap_1 {ρ : Type} : List (LpEnt ρ) := ⟨3, B_spec_pgMap_3, lpC ci_spec_pgMap_3 xe_spec_pgMap_3 (fun v kn ke => spec_pgMap_R3 v.1 v.2.1 v.2.2.1 v.2.2.2.1 v.2.2.2.2.1 v.2.2.2.2.2.1 v.2.2.2.2.2.2.1 v.2.2.2.2.2.2.2.1 v.2.2.2.2.2.2.2.2.1 v.2.2.2.2.2.2.2.2.2 (fun a0 a1 a2 a3 a4 a5 a6 a7 a8 a9 => kn (a0, a1, a2, a3, a4, a5, a6, a7, a8, a9)) (fun a0 a1 a2 => ke (.inl (a0, a1, a2))) (fun a0 => ke (.inr a0)))⟩ :: lp_spec_pgMap_0
theorem ls_spec_pgMap_1 {ρ : Type} : LpEnts Try.prog st_spec_pgMap (lp_spec_pgMap_1 (ρ := ρ)) := loop_more (st_ok _ _ _) fs_spec_pgMap ls_spec_pgMap_0 (by kernel_rfl) (has_of (by kernel_rfl) has_nil) ci_spec_pgMap_3 [28, 30, 32] xe_spec_pgMap_3 (fun v kn ke => spec_pgMap_R3 v.1 v.2.1 v.2.2.1 v.2.2.2.1 v.2.2.2.2.1 v.2.2.2.2.2.1 v.2.2.2.2.2.2.1 v.2.2.2.2.2.2.2.1 v.2.2.2.2.2.2.2.2.1 v.2.2.2.2.2.2.2.2.2 (fun a0 a1 a2 a3 a4 a5 a6 a7 a8 a9 => kn (a0, a1, a2, a3, a4, a5, a6, a7, a8, a9)) (fun a0 a1 a2 => ke (.inl (a0, a1, a2))) (fun a0 => ke (.inr a0))) (fun v => by kernel_rfl) (fun v KN KE => by kernel_rfl) 3
noncomputable def C_spec_pgMap {ρ : Type} : FnCl ρ := fnC 61 (lCons (cSl 0 (.p (.i .i64) (.i .i64))) (lCons (cInt .i64) (lCons (cInt .i64) (lCons (cInt .i64) (lCons (cInt .i64) (lCons (cInt .i64) (lOne (cInt .i64)))))))) lNil (fun (e : (List (Int × Int)) × Bool) => (((.tup [(.sl 1 (.p (.i .i64) (.i .i64)) e.1), (.bool e.2)]) : PV), ([] : List PV))) (fun a o K => spec_pgMap a.1 a.2.1 a.2.2.1 a.2.2.2.1 a.2.2.2.2.1 a.2.2.2.2.2.1 a.2.2.2.2.2.2 (fun r0 r1 => K (r0, r1)))
theorem S_spec_pgMap {ρ : Type} : FnSound Try.prog (C_spec_pgMap (ρ := ρ)) := fn_sound (st_ok _ _ _) fs_spec_pgMap ls_spec_pgMap_1 (by kernel_rfl) (fn := Try.f61) (by kernel_rfl) (by kernel_rfl) (has_of (by kernel_rfl) (has_cons (c := B_spec_pgMap_3) 0 (by kernel_rfl) has_nil)) _ _ _ _ (fun a => by kernel_rfl) (fun a o K => by kernel_rfl)
abbrev st_spec_MoveCorners : Sta := stOf [] [] 30
noncomputable def fns_spec_MoveCorners {ρ : Type} : List (FnCl ρ) := [C_spec_mvGood, C_spec_pgGood, C_spec_pgMap]
theorem fs_spec_MoveCorners {ρ : Type} : ∀ c ∈ fns_spec_MoveCorners (ρ := ρ), FnSound Try.prog c := (fs_cons S_spec_mvGood (fs_cons S_spec_pgGood (fs_cons S_spec_pgMap fs_nil)))
noncomputable def lp_spec_MoveCorners_0 {ρ : Type} : List (LpEnt ρ) := []
theorem ls_spec_MoveCorners_0 {ρ : Type} : LpEnts Try.prog st_spec_MoveCorners (lp_spec_MoveCorners_0 (ρ := ρ)) := fun _ h => nomatch h
noncomputable def C_spec_MoveCorners {ρ : Type} : FnCl ρ := fnC 34 (lCons (cAgg (lCons (cInt .i64) (lCons (cInt .i64) (lCons (cInt .i64) (lCons (cInt .i64) (lCons (cInt .i64) (lOne (cInt .i64)))))))) (lOne (cSl 0 (.p (.i .i64) (.i .i64))))) lNil (fun (e : (List (Int × Int)) × Bool) => (((.tup [(.sl 1 (.p (.i .i64) (.i .i64)) e.1), (.bool e.2)]) : PV), ([] : List PV))) (fun a o K => spec_MoveCorners a.1 a.2 (fun r0 r1 => K (r0, r1)))
theorem S_spec_MoveCorners {ρ : Type} : FnSound Try.prog (C_spec_MoveCorners (ρ := ρ)) := fn_sound (st_ok _ _ _) fs_spec_MoveCorners ls_spec_MoveCorners_0 (by kernel_rfl) (fn := Try.f34) (by kernel_rfl) (by kernel_rfl) (has_of (by kernel_rfl) has_nil) _ _ _ _ (fun a => by kernel_rfl) (fun a o K => by kernel_rfl)
abbrev st_spec_FlatPolygon : Sta := stOf [(1, 2, 1)] [] 18
noncomputable def fns_spec_FlatPolygon {ρ : Type} : List (FnCl ρ) := [C_spec_FlatMove, C_spec_MoveCorners]
theorem fs_spec_FlatPolygon {ρ : Type} : ∀ c ∈ fns_spec_FlatPolygon (ρ := ρ), FnSound Try.prog c := (fs_cons S_spec_FlatMove (fs_cons S_spec_MoveCorners fs_nil))
noncomputable def lp_spec_FlatPolygon_0 {ρ : Type} : List (LpEnt ρ) := []
theorem ls_spec_FlatPolygon_0 {ρ : Type} : LpEnts Try.prog st_spec_FlatPolygon (lp_spec_FlatPolygon_0 (ρ := ρ)) := fun _ h => nomatch h
noncomputable def C_spec_FlatPolygon {ρ : Type} : FnCl ρ := fnC 18 (lOne (cSl 0 (.p (.i .i64) (.i .i64)))) lNil (fun (e : (List (Int × Int)) × Bool) => (((.tup [(.sl 1 (.p (.i .i64) (.i .i64)) e.1), (.bool e.2)]) : PV), ([] : List PV))) (fun a o K => spec_FlatPolygon a (fun r0 r1 => K (r0, r1)))
theorem S_spec_FlatPolygon {ρ : Type} : FnSound Try.prog (C_spec_FlatPolygon (ρ := ρ)) := fn_sound (st_ok _ _ _) fs_spec_FlatPolygon ls_spec_FlatPolygon_0 (by kernel_rfl) (fn := Try.f18) (by kernel_rfl) (by kernel_rfl) (has_of (by kernel_rfl) has_nil) _ _ _ _ (fun a => by kernel_rfl) (fun a o K => by kernel_rfl)
abbrev st_impl_changed_at_Move_bring : Sta := stOf [(7, 0, 1), (11, 0, 1)] [] 30
noncomputable def fns_impl_changed_at_Move_bring {ρ : Type} : List (FnCl ρ) := [C_impl_IsPolygon, C_impl_Move_bring, C_impl_arePegs]
theorem fs_impl_changed_at_Move_bring {ρ : Type} : ∀ c ∈ fns_impl_changed_at_Move_bring (ρ := ρ), FnSound Try.prog c := (fs_cons S_impl_IsPolygon (fs_cons S_impl_Move_bring (fs_cons S_impl_arePegs fs_nil)))
noncomputable def lp_impl_changed_at_Move_bring_0 {ρ : Type} : List (LpEnt ρ) := []
theorem ls_impl_changed_at_Move_bring_0 {ρ : Type} : LpEnts Try.prog st_impl_changed_at_Move_bring (lp_impl_changed_at_Move_bring_0 (ρ := ρ)) := fun _ h => nomatch h
noncomputable def B_impl_changed_at_Move_bring_5 : Code := (loopsOf (bodyOf Try.f35)).getD 0 .skip
def ci_impl_changed_at_Move_bring_5 : CodS ((Int × Int × Int × Int × Int × Int) × (List (Int × Int)) × (List (Int × Int)) × Int × Int) := ⟨[2, 12, 26, 28, 30], (lCons (cBnd 36 (lOne (cAgg (lCons (cInt .i64) (lCons (cInt .i64) (lCons (cInt .i64) (lCons (cInt .i64) (lCons (cInt .i64) (lOne (cInt .i64)))))))))) (lCons (cSl 1 (.p (.i .i64) (.i .i64))) (lCons (cSl 0 (.p (.i .i64) (.i .i64))) (lCons (cInt .i64) (lOne (cInt .i64))))))⟩
def xe_impl_changed_at_Move_bring_5 {ρ : Type} (K : X → St → Option ρ) : (List (Int × Int)) → Option ρ := (fun x => K (.exit 0) (Go.VI.mk [(12, (.sl 1 (.p (.i .i64) (.i .i64)) x))]))
noncomputable def lp_impl_changed_at_Move_bring_1 {ρ : Type} : List (LpEnt ρ) := ⟨5, B_impl_changed_at_Move_bring_5, lpC ci_impl_changed_at_Move_bring_5 xe_impl_changed_at_Move_bring_5 (fun v kn ke => impl_changed_at_Move_bring_R5 v.1 v.2.1 v.2.2.1 v.2.2.2.1 v.2.2.2.2 (fun a0 a1 a2 a3 a4 => kn (a0, a1, a2, a3, a4)) (fun a0 => ke a0))⟩ :: lp_impl_changed_at_Move_bring_0
theorem ls_impl_changed_at_Move_bring_1 {ρ : Type} : LpEnts Try.prog st_impl_changed_at_Move_bring (lp_impl_changed_at_Move_bring_1 (ρ := ρ)) := loop_more (st_ok _ _ _) fs_impl_changed_at_Move_bring ls_impl_changed_at_Move_bring_0 (by kernel_rfl) (has_of (by kernel_rfl) has_nil) ci_impl_changed_at_Move_bring_5 [12] xe_impl_changed_at_Move_bring_5 (fun v kn ke => impl_changed_at_Move_bring_R5 v.1 v.2.1 v.2.2.1 v.2.2.2.1 v.2.2.2.2 (fun a0 a1 a2 a3 a4 => kn (a0, a1, a2, a3, a4)) (fun a0 => ke a0)) (fun v => by kernel_rfl) (fun v KN KE => by kernel_rfl) 5
noncomputable def C_impl_changed_at_Move_bring {ρ : Type} : FnCl ρ := fnC 35 (lCons (cSl 0 (.p (.i .i64) (.i .i64))) (lOne (cBnd 36 (lOne (cAgg (lCons (cInt .i64) (lCons (cInt .i64) (lCons (cInt .i64) (lCons (cInt .i64) (lCons (cInt .i64) (lOne (cInt .i64)))))))))))) lNil (fun (e : (List (Int × Int)) × Bool) => (((.tup [(.sl 1 (.p (.i .i64) (.i .i64)) e.1), (.bool e.2)]) : PV), ([] : List PV))) (fun a o K => impl_changed_at_Move_bring a.1 a.2 (fun r0 r1 => K (r0, r1)))
theorem S_impl_changed_at_Move_bring {ρ : Type} : FnSound Try.prog (C_impl_changed_at_Move_bring (ρ := ρ)) := fn_sound (st_ok _ _ _) fs_impl_changed_at_Move_bring ls_impl_changed_at_Move_bring_1 (by kernel_rfl) (fn := Try.f35) (by kernel_rfl) (by kernel_rfl) (has_of (by kernel_rfl) (has_cons (c := B_impl_changed_at_Move_bring_5) 0 (by kernel_rfl) has_nil)) _ _ _ _ (fun a => by kernel_rfl) (fun a o K => by kernel_rfl)
abbrev st_impl_FlatPolygon : Sta := stOf [(1, 2, 1)] [] 19
noncomputable def fns_impl_FlatPolygon {ρ : Type} : List (FnCl ρ) := [C_impl_FlatMove, C_impl_changed_at_Move_bring]
theorem fs_impl_FlatPolygon {ρ : Type} : ∀ c ∈ fns_impl_FlatPolygon (ρ := ρ), FnSound Try.prog c := (fs_cons S_impl_FlatMove (fs_cons S_impl_changed_at_Move_bring fs_nil))
noncomputable def lp_impl_FlatPolygon_0 {ρ : Type} : List (LpEnt ρ) := []
theorem ls_impl_FlatPolygon_0 {ρ : Type} : LpEnts Try.prog st_impl_FlatPolygon (lp_impl_FlatPolygon_0 (ρ := ρ)) := fun _ h => nomatch h
noncomputable def C_impl_FlatPolygon {ρ : Type} : FnCl ρ := fnC 19 (lOne (cSl 0 (.p (.i .i64) (.i .i64)))) lNil (fun (e : (List (Int × Int)) × Bool) => (((.tup [(.sl 1 (.p (.i .i64) (.i .i64)) e.1), (.bool e.2)]) : PV), ([] : List PV))) (fun a o K => impl_FlatPolygon a (fun r0 r1 => K (r0, r1)))
theorem S_impl_FlatPolygon {ρ : Type} : FnSound Try.prog (C_impl_FlatPolygon (ρ := ρ)) := fn_sound (st_ok _ _ _) fs_impl_FlatPolygon ls_impl_FlatPolygon_0 (by kernel_rfl) (fn := Try.f19) (by kernel_rfl) (by kernel_rfl) (has_of (by kernel_rfl) has_nil) _ _ _ _ (fun a => by kernel_rfl) (fun a o K => by kernel_rfl)
abbrev st_laws_heldPegS : Sta := stOf [] [] 31
noncomputable def fns_laws_heldPegS {ρ : Type} : List (FnCl ρ) := []
theorem fs_laws_heldPegS {ρ : Type} : ∀ c ∈ fns_laws_heldPegS (ρ := ρ), FnSound Try.prog c := fs_nil
noncomputable def lp_laws_heldPegS_0 {ρ : Type} : List (LpEnt ρ) := []
theorem ls_laws_heldPegS_0 {ρ : Type} : LpEnts Try.prog st_laws_heldPegS (lp_laws_heldPegS_0 (ρ := ρ)) := fun _ h => nomatch h
noncomputable def B_laws_heldPegS_2 : Code := (loopsOf (bodyOf Try.f20)).getD 0 .skip
def ci_laws_heldPegS_2 : CodS ((List (Int × Int)) × Int × Int) := ⟨[0, 2, 10], (lCons (cSl 0 (.p (.i .i64) (.i .i64))) (lCons (cInt .i64) (lOne (cInt .i64))))⟩
def xe_laws_heldPegS_2 {ρ : Type} (K : X → St → Option ρ) : ((Int × Int) ⊕ Int) → Option ρ := (Sum.elim (fun x => K .ret (Go.VI.mk [(2, (.int .i64 x.1)), (8, (.int .i64 x.2))])) (fun x => K (.exit 0) (Go.VI.mk [(2, (.int .i64 x)), (8, .undef)])))
noncomputable def lp_laws_heldPegS_1 {ρ : Type} : List (LpEnt ρ) := ⟨2, B_laws_heldPegS_2, lpC ci_laws_heldPegS_2 xe_laws_heldPegS_2 (fun v kn ke => laws_heldPegS_R2 v.1 v.2.1 v.2.2 (fun a0 a1 a2 => kn (a0, a1, a2)) (fun a0 a1 => ke (.inl (a0, a1))) (fun a0 => ke (.inr a0)))⟩ :: lp_laws_heldPegS_0
theorem ls_laws_heldPegS_1 {ρ : Type} : LpEnts Try.prog st_laws_heldPegS (lp_laws_heldPegS_1 (ρ := ρ)) := loop_more (st_ok _ _ _) fs_laws_heldPegS ls_laws_heldPegS_0 (by kernel_rfl) (has_of (by kernel_rfl) has_nil) ci_laws_heldPegS_2 [2, 8] xe_laws_heldPegS_2 (fun v kn ke => laws_heldPegS_R2 v.1 v.2.1 v.2.2 (fun a0 a1 a2 => kn (a0, a1, a2)) (fun a0 a1 => ke (.inl (a0, a1))) (fun a0 => ke (.inr a0))) (fun v => by kernel_rfl) (fun v KN KE => by kernel_rfl) 2
noncomputable def C_laws_heldPegS {ρ : Type} : FnCl ρ := fnC 20 (lCons (cSl 0 (.p (.i .i64) (.i .i64))) (lOne (cInt .i64))) lNil (fun (e : Int) => (((.int .i64 e) : PV), ([] : List PV))) (fun a o K => laws_heldPegS a.1 a.2 (fun r0 => K r0))
theorem S_laws_heldPegS {ρ : Type} : FnSound Try.prog (C_laws_heldPegS (ρ := ρ)) := fn_sound (st_ok _ _ _) fs_laws_heldPegS ls_laws_heldPegS_1 (by kernel_rfl) (fn := Try.f20) (by kernel_rfl) (by kernel_rfl) (has_of (by kernel_rfl) (has_cons (c := B_laws_heldPegS_2) 0 (by kernel_rfl) has_nil)) _ _ _ _ (fun a => by kernel_rfl) (fun a o K => by kernel_rfl)
abbrev st_laws_FnExactFlatPolygon : Sta := stOf [(5, 3, 1), (7, 2, 1), (13, 0, 1), (24, 3, 1), (25, 0, 1), (25, 1, 1), (28, 0, 1)] [(12, [2, 0])] 96
noncomputable def fns_laws_FnExactFlatPolygon {ρ : Type} : List (FnCl ρ) := [C_laws_szPegS, C_laws_toPegS, C_spec_FlatPolygon, C_impl_FlatPolygon, C_laws_eqPegS, C_laws_markPegS, C_laws_heldPegS]
theorem fs_laws_FnExactFlatPolygon {ρ : Type} : ∀ c ∈ fns_laws_FnExactFlatPolygon (ρ := ρ), FnSound Try.prog c := (fs_cons S_laws_szPegS (fs_cons S_laws_toPegS (fs_cons S_spec_FlatPolygon (fs_cons S_impl_FlatPolygon (fs_cons S_laws_eqPegS (fs_cons S_laws_markPegS (fs_cons S_laws_heldPegS fs_nil)))))))
noncomputable def lp_laws_FnExactFlatPolygon_0 {ρ : Type} : List (LpEnt ρ) := []
theorem ls_laws_FnExactFlatPolygon_0 {ρ : Type} : LpEnts Try.prog st_laws_FnExactFlatPolygon (lp_laws_FnExactFlatPolygon_0 (ρ := ρ)) := fun _ h => nomatch h
noncomputable def C_laws_FnExactFlatPolygon {ρ : Type} : FnCl ρ := fnC 5 (lOne (cSl 0 (.p (.i .i64) (.i .i64)))) lNil (fun (e : Bool) => (((.bool e) : PV), ([] : List PV))) (fun a o K => laws_FnExactFlatPolygon a (fun r0 => K r0))
theorem S_laws_FnExactFlatPolygon {ρ : Type} : FnSound Try.prog (C_laws_FnExactFlatPolygon (ρ := ρ)) := fn_sound (st_ok _ _ _) fs_laws_FnExactFlatPolygon ls_laws_FnExactFlatPolygon_0 (by kernel_rfl) (fn := Try.f5) (by kernel_rfl) (by kernel_rfl) (has_of (by kernel_rfl) has_nil) _ _ _ _ (fun a => by kernel_rfl) (fun a o K => by kernel_rfl)
end Go.Proofs.Ga
