/- The types and tables that the code of the law uses.
   Part of the proof of Rows.RegsFlowsSaid of the program 'recoup'. -/
import Derived.Test.YtoaimimdfddidaaLb19
import Derived.Test.YtoaimimdfddidaaProg
import Derived.KernelRfl
import Derived.Eval
set_option linter.unusedVariables false
set_option linter.unusedSimpArgs false
set_option linter.unusedSectionVars false
namespace Go.RL
open Go.Proofs
set_option maxRecDepth 20000
set_option maxHeartbeats 4000000
structure GTerm where
  Of : Int
  By : Int
  deriving Repr, DecidableEq
def eGTerm : ET GTerm where
  n := 2
  bytes := 16
  rd := fun h cs x => cs = [.int .i64 x.Of, .int .u8 x.By] ∧ inR .i64 x.Of ∧ inR .u8 x.By
  len := by rintro h cs x ⟨rfl, _, _⟩; rfl
  mono := by rintro h h' cs x hle ⟨rfl, f0, f1⟩; exact ⟨rfl, f0, f1⟩
  one := by rintro h cs x ⟨rfl, _, _⟩ v hv; simp at hv; rcases hv with rfl | rfl <;> rfl
theorem efGTerm_Of : EF eGTerm (eInt .i64 8) 0 (·.Of) := by
  rintro h cs x ⟨rfl, f0, f1⟩
  refine ⟨_, ⟨rfl, f0⟩, fun j v hv => ?_⟩
  match j, hv with
  | 0, hv => exact hv
  | j + 1, hv => simp at hv
theorem efGTerm_By : EF eGTerm (eInt .u8 1) 1 (·.By) := by
  rintro h cs x ⟨rfl, f0, f1⟩
  refine ⟨_, ⟨rfl, f1⟩, fun j v hv => ?_⟩
  match j, hv with
  | 0, hv => exact hv
  | j + 1, hv => simp at hv
structure GFlow where
  Inputs : List Int
  Nodes : List (List GTerm)
  Outs : List Int
  deriving Repr, DecidableEq
def eGFlow : ET GFlow where
  n := 3
  bytes := 72
  rd := fun h cs x => ∃ (A0 : Option Addr) (c0 : Nat) (A1 : Option Addr) (c1 : Nat) (A2 : Option Addr) (c2 : Nat), cs = [.slice A0 (x.Inputs).length c0, .slice A1 (x.Nodes).length c1, .slice A2 (x.Outs).length c2] ∧ RdS (eInt .i64 8) h A0 c0 x.Inputs ∧ RdS (eSl eGTerm) h A1 c1 x.Nodes ∧ RdS (eInt .i64 8) h A2 c2 x.Outs
  len := by rintro h cs x ⟨_, _, _, _, _, _, rfl, _, _, _⟩; rfl
  mono := by rintro h h' cs x hle ⟨_, _, _, _, _, _, rfl, f0, f1, f2⟩; exact ⟨_, _, _, _, _, _, rfl, f0.mono hle, f1.mono hle, f2.mono hle⟩
  one := by rintro h cs x ⟨_, _, _, _, _, _, rfl, _, _, _⟩ v hv; simp at hv; rcases hv with rfl | rfl | rfl <;> rfl
theorem efGFlow_Inputs : EF eGFlow (eSl (eInt .i64 8)) 0 (·.Inputs) := by
  rintro h cs x ⟨_, _, _, _, _, _, rfl, f0, f1, f2⟩
  refine ⟨_, ⟨_, _, rfl, f0⟩, fun j v hv => ?_⟩
  match j, hv with
  | 0, hv => exact hv
  | j + 1, hv => simp at hv
theorem efGFlow_Nodes : EF eGFlow (eSl (eSl eGTerm)) 1 (·.Nodes) := by
  rintro h cs x ⟨_, _, _, _, _, _, rfl, f0, f1, f2⟩
  refine ⟨_, ⟨_, _, rfl, f1⟩, fun j v hv => ?_⟩
  match j, hv with
  | 0, hv => exact hv
  | j + 1, hv => simp at hv
theorem efGFlow_Outs : EF eGFlow (eSl (eInt .i64 8)) 2 (·.Outs) := by
  rintro h cs x ⟨_, _, _, _, _, _, rfl, f0, f1, f2⟩
  refine ⟨_, ⟨_, _, rfl, f2⟩, fun j v hv => ?_⟩
  match j, hv with
  | 0, hv => exact hv
  | j + 1, hv => simp at hv
structure GMatrix where
  Rows : Int
  Cols : Int
  Data : List Int
  deriving Repr, DecidableEq
def eGMatrix : ET GMatrix where
  n := 3
  bytes := 40
  rd := fun h cs x => ∃ (A2 : Option Addr) (c2 : Nat), cs = [.int .i64 x.Rows, .int .i64 x.Cols, .slice A2 (x.Data).length c2] ∧ inR .i64 x.Rows ∧ inR .i64 x.Cols ∧ RdS (eInt .u8 1) h A2 c2 x.Data
  len := by rintro h cs x ⟨_, _, rfl, _, _, _⟩; rfl
  mono := by rintro h h' cs x hle ⟨_, _, rfl, f0, f1, f2⟩; exact ⟨_, _, rfl, f0, f1, f2.mono hle⟩
  one := by rintro h cs x ⟨_, _, rfl, _, _, _⟩ v hv; simp at hv; rcases hv with rfl | rfl | rfl <;> rfl
theorem efGMatrix_Rows : EF eGMatrix (eInt .i64 8) 0 (·.Rows) := by
  rintro h cs x ⟨_, _, rfl, f0, f1, f2⟩
  refine ⟨_, ⟨rfl, f0⟩, fun j v hv => ?_⟩
  match j, hv with
  | 0, hv => exact hv
  | j + 1, hv => simp at hv
theorem efGMatrix_Cols : EF eGMatrix (eInt .i64 8) 1 (·.Cols) := by
  rintro h cs x ⟨_, _, rfl, f0, f1, f2⟩
  refine ⟨_, ⟨rfl, f1⟩, fun j v hv => ?_⟩
  match j, hv with
  | 0, hv => exact hv
  | j + 1, hv => simp at hv
theorem efGMatrix_Data : EF eGMatrix (eSl (eInt .u8 1)) 2 (·.Data) := by
  rintro h cs x ⟨_, _, rfl, f0, f1, f2⟩
  refine ⟨_, ⟨_, _, rfl, f2⟩, fun j v hv => ?_⟩
  match j, hv with
  | 0, hv => exact hv
  | j + 1, hv => simp at hv
structure GStep where
  Kind : Int
  D : Int
  S : Int
  C : Int
  deriving Repr, DecidableEq
def eGStep : ET GStep where
  n := 4
  bytes := 32
  rd := fun h cs x => cs = [.int .u8 x.Kind, .int .i64 x.D, .int .i64 x.S, .int .u8 x.C] ∧ inR .u8 x.Kind ∧ inR .i64 x.D ∧ inR .i64 x.S ∧ inR .u8 x.C
  len := by rintro h cs x ⟨rfl, _, _, _, _⟩; rfl
  mono := by rintro h h' cs x hle ⟨rfl, f0, f1, f2, f3⟩; exact ⟨rfl, f0, f1, f2, f3⟩
  one := by rintro h cs x ⟨rfl, _, _, _, _⟩ v hv; simp at hv; rcases hv with rfl | rfl | rfl | rfl <;> rfl
theorem efGStep_Kind : EF eGStep (eInt .u8 1) 0 (·.Kind) := by
  rintro h cs x ⟨rfl, f0, f1, f2, f3⟩
  refine ⟨_, ⟨rfl, f0⟩, fun j v hv => ?_⟩
  match j, hv with
  | 0, hv => exact hv
  | j + 1, hv => simp at hv
theorem efGStep_D : EF eGStep (eInt .i64 8) 1 (·.D) := by
  rintro h cs x ⟨rfl, f0, f1, f2, f3⟩
  refine ⟨_, ⟨rfl, f1⟩, fun j v hv => ?_⟩
  match j, hv with
  | 0, hv => exact hv
  | j + 1, hv => simp at hv
theorem efGStep_S : EF eGStep (eInt .i64 8) 2 (·.S) := by
  rintro h cs x ⟨rfl, f0, f1, f2, f3⟩
  refine ⟨_, ⟨rfl, f2⟩, fun j v hv => ?_⟩
  match j, hv with
  | 0, hv => exact hv
  | j + 1, hv => simp at hv
theorem efGStep_C : EF eGStep (eInt .u8 1) 3 (·.C) := by
  rintro h cs x ⟨rfl, f0, f1, f2, f3⟩
  refine ⟨_, ⟨rfl, f3⟩, fun j v hv => ?_⟩
  match j, hv with
  | 0, hv => exact hv
  | j + 1, hv => simp at hv
structure GProgram where
  Steps : List GStep
  Regs : Int
  Outs : Int
  Reads : Int
  deriving Repr, DecidableEq
def eGProgram : ET GProgram where
  n := 4
  bytes := 48
  rd := fun h cs x => ∃ (A0 : Option Addr) (c0 : Nat), cs = [.slice A0 (x.Steps).length c0, .int .i64 x.Regs, .int .i64 x.Outs, .int .u64 x.Reads] ∧ RdS eGStep h A0 c0 x.Steps ∧ inR .i64 x.Regs ∧ inR .i64 x.Outs ∧ inR .u64 x.Reads
  len := by rintro h cs x ⟨_, _, rfl, _, _, _, _⟩; rfl
  mono := by rintro h h' cs x hle ⟨_, _, rfl, f0, f1, f2, f3⟩; exact ⟨_, _, rfl, f0.mono hle, f1, f2, f3⟩
  one := by rintro h cs x ⟨_, _, rfl, _, _, _, _⟩ v hv; simp at hv; rcases hv with rfl | rfl | rfl | rfl <;> rfl
theorem efGProgram_Steps : EF eGProgram (eSl eGStep) 0 (·.Steps) := by
  rintro h cs x ⟨_, _, rfl, f0, f1, f2, f3⟩
  refine ⟨_, ⟨_, _, rfl, f0⟩, fun j v hv => ?_⟩
  match j, hv with
  | 0, hv => exact hv
  | j + 1, hv => simp at hv
theorem efGProgram_Regs : EF eGProgram (eInt .i64 8) 1 (·.Regs) := by
  rintro h cs x ⟨_, _, rfl, f0, f1, f2, f3⟩
  refine ⟨_, ⟨rfl, f1⟩, fun j v hv => ?_⟩
  match j, hv with
  | 0, hv => exact hv
  | j + 1, hv => simp at hv
theorem efGProgram_Outs : EF eGProgram (eInt .i64 8) 2 (·.Outs) := by
  rintro h cs x ⟨_, _, rfl, f0, f1, f2, f3⟩
  refine ⟨_, ⟨rfl, f2⟩, fun j v hv => ?_⟩
  match j, hv with
  | 0, hv => exact hv
  | j + 1, hv => simp at hv
theorem efGProgram_Reads : EF eGProgram (eInt .u64 8) 3 (·.Reads) := by
  rintro h cs x ⟨_, _, rfl, f0, f1, f2, f3⟩
  refine ⟨_, ⟨rfl, f3⟩, fun j v hv => ?_⟩
  match j, hv with
  | 0, hv => exact hv
  | j + 1, hv => simp at hv
structure GFieldTables where
  exp : List Int
  log : List Int
  deriving Repr, DecidableEq
theorem ty3 : TOK Try.prog 3 ⟨.int .i64, Value.int .i64 0, 1, 8⟩ := ⟨by kernel_rfl, by kernel_rfl⟩
theorem ty4 : TOK Try.prog 4 ⟨.bool, Value.bool false, 1, 1⟩ := ⟨by kernel_rfl, by kernel_rfl⟩
theorem ty5 : TOK Try.prog 5 ⟨.int .u8, Value.int .u8 0, 1, 1⟩ := ⟨by kernel_rfl, by kernel_rfl⟩
theorem ty9 : TOK Try.prog 9 ⟨.str, Value.string ⟨#[]⟩, 1, 16⟩ := ⟨by kernel_rfl, by kernel_rfl⟩
theorem ty22 : TOK Try.prog 22 ⟨.slice 3, Value.slice none 0 0, 1, 24⟩ := ⟨by kernel_rfl, by kernel_rfl⟩
theorem ty23 : TOK Try.prog 23 ⟨.slice 39, Value.slice none 0 0, 1, 24⟩ := ⟨by kernel_rfl, by kernel_rfl⟩
theorem ty25 : TOK Try.prog 25 ⟨.struct [(22, 0, 1), (23, 1, 1), (22, 2, 1)], .agg #[Value.slice none 0 0, Value.slice none 0 0, Value.slice none 0 0], 3, 72⟩ := ⟨by kernel_rfl, by kernel_rfl⟩
theorem ty26 : TOK Try.prog 26 ⟨.slice 27, Value.slice none 0 0, 1, 24⟩ := ⟨by kernel_rfl, by kernel_rfl⟩
theorem ty27 : TOK Try.prog 27 ⟨.slice 5, Value.slice none 0 0, 1, 24⟩ := ⟨by kernel_rfl, by kernel_rfl⟩
theorem ty29 : TOK Try.prog 29 ⟨.struct [(3, 0, 1), (3, 1, 1), (27, 2, 1)], .agg #[Value.int .i64 0, Value.int .i64 0, Value.slice none 0 0], 3, 40⟩ := ⟨by kernel_rfl, by kernel_rfl⟩
theorem ty39 : TOK Try.prog 39 ⟨.slice 41, Value.slice none 0 0, 1, 24⟩ := ⟨by kernel_rfl, by kernel_rfl⟩
theorem ty41 : TOK Try.prog 41 ⟨.struct [(3, 0, 1), (5, 1, 1)], .agg #[Value.int .i64 0, Value.int .u8 0], 2, 16⟩ := ⟨by kernel_rfl, by kernel_rfl⟩
theorem ty51 : TOK Try.prog 51 ⟨.slice 80, Value.slice none 0 0, 1, 24⟩ := ⟨by kernel_rfl, by kernel_rfl⟩
theorem ty52 : TOK Try.prog 52 ⟨.int .u64, Value.int .u64 0, 1, 8⟩ := ⟨by kernel_rfl, by kernel_rfl⟩
theorem ty53 : TOK Try.prog 53 ⟨.int .u64, Value.int .u64 0, 1, 8⟩ := ⟨by kernel_rfl, by kernel_rfl⟩
theorem ty55 : TOK Try.prog 55 ⟨.struct [(51, 0, 1), (3, 1, 1), (3, 2, 1), (53, 3, 1)], .agg #[Value.slice none 0 0, Value.int .i64 0, Value.int .i64 0, Value.int .u64 0], 4, 48⟩ := ⟨by kernel_rfl, by kernel_rfl⟩
theorem ty62 : TOK Try.prog 62 ⟨.slice 4, Value.slice none 0 0, 1, 24⟩ := ⟨by kernel_rfl, by kernel_rfl⟩
theorem ty69 : TOK Try.prog 69 ⟨.ptr 73, Value.pointer none, 1, 8⟩ := ⟨by kernel_rfl, by kernel_rfl⟩
theorem ty71 : TOK Try.prog 71 ⟨.arr 256 4, .agg (List.replicate 256 (Value.bool false)).toArray, 256, 256⟩ := ⟨by kernel_rfl, by kernel_rfl⟩
theorem ty73 : TOK Try.prog 73 ⟨.struct [(25, 0, 3), (55, 3, 4), (71, 7, 256), (22, 263, 1), (4, 264, 1)], .agg ([Value.slice none 0 0, Value.slice none 0 0, Value.slice none 0 0, Value.slice none 0 0, Value.int .i64 0, Value.int .i64 0, Value.int .u64 0] ++ List.replicate 256 (Value.bool false) ++ [Value.slice none 0 0, Value.bool false]).toArray, 265, 408⟩ := ⟨by kernel_rfl, by kernel_rfl⟩
theorem ty78 : TOK Try.prog 78 ⟨.int .u8, Value.int .u8 0, 1, 1⟩ := ⟨by kernel_rfl, by kernel_rfl⟩
theorem ty80 : TOK Try.prog 80 ⟨.struct [(78, 0, 1), (3, 1, 1), (3, 2, 1), (5, 3, 1)], .agg #[Value.int .u8 0, Value.int .i64 0, Value.int .i64 0, Value.int .u8 0], 4, 32⟩ := ⟨by kernel_rfl, by kernel_rfl⟩
theorem ty84 : TOK Try.prog 84 ⟨.struct [(26, 0, 1), (26, 1, 1), (26, 2, 1), (3, 3, 1)], .agg #[Value.slice none 0 0, Value.slice none 0 0, Value.slice none 0 0, Value.int .i64 0], 4, 80⟩ := ⟨by kernel_rfl, by kernel_rfl⟩
theorem ty94 : TOK Try.prog 94 ⟨.int .u64, Value.int .u64 0, 1, 8⟩ := ⟨by kernel_rfl, by kernel_rfl⟩
theorem ty100 : TOK Try.prog 100 ⟨.arr 510 5, .agg (List.replicate 510 (Value.int .u8 0)).toArray, 510, 510⟩ := ⟨by kernel_rfl, by kernel_rfl⟩
theorem ty101 : TOK Try.prog 101 ⟨.arr 256 3, .agg (List.replicate 256 (Value.int .i64 0)).toArray, 256, 2048⟩ := ⟨by kernel_rfl, by kernel_rfl⟩
theorem ty103 : TOK Try.prog 103 ⟨.struct [(100, 0, 510), (101, 510, 256)], .agg (List.replicate 510 (Value.int .u8 0) ++ List.replicate 256 (Value.int .i64 0)).toArray, 766, 2560⟩ := ⟨by kernel_rfl, by kernel_rfl⟩
theorem ty105 : TOK Try.prog 105 ⟨.int .u32, Value.int .u32 0, 1, 4⟩ := ⟨by kernel_rfl, by kernel_rfl⟩
def tabl : List (Nat × TE) := [(3, ⟨.int .i64, Value.int .i64 0, 1, 8⟩),
  (4, ⟨.bool, Value.bool false, 1, 1⟩),
  (5, ⟨.int .u8, Value.int .u8 0, 1, 1⟩),
  (9, ⟨.str, Value.string ⟨#[]⟩, 1, 16⟩),
  (22, ⟨.slice 3, Value.slice none 0 0, 1, 24⟩),
  (23, ⟨.slice 39, Value.slice none 0 0, 1, 24⟩),
  (25, ⟨.struct [(22, 0, 1), (23, 1, 1), (22, 2, 1)], .agg #[Value.slice none 0 0, Value.slice none 0 0, Value.slice none 0 0], 3, 72⟩),
  (26, ⟨.slice 27, Value.slice none 0 0, 1, 24⟩),
  (27, ⟨.slice 5, Value.slice none 0 0, 1, 24⟩),
  (29, ⟨.struct [(3, 0, 1), (3, 1, 1), (27, 2, 1)], .agg #[Value.int .i64 0, Value.int .i64 0, Value.slice none 0 0], 3, 40⟩),
  (39, ⟨.slice 41, Value.slice none 0 0, 1, 24⟩),
  (41, ⟨.struct [(3, 0, 1), (5, 1, 1)], .agg #[Value.int .i64 0, Value.int .u8 0], 2, 16⟩),
  (51, ⟨.slice 80, Value.slice none 0 0, 1, 24⟩),
  (52, ⟨.int .u64, Value.int .u64 0, 1, 8⟩),
  (53, ⟨.int .u64, Value.int .u64 0, 1, 8⟩),
  (55, ⟨.struct [(51, 0, 1), (3, 1, 1), (3, 2, 1), (53, 3, 1)], .agg #[Value.slice none 0 0, Value.int .i64 0, Value.int .i64 0, Value.int .u64 0], 4, 48⟩),
  (62, ⟨.slice 4, Value.slice none 0 0, 1, 24⟩),
  (69, ⟨.ptr 73, Value.pointer none, 1, 8⟩),
  (71, ⟨.arr 256 4, .agg (List.replicate 256 (Value.bool false)).toArray, 256, 256⟩),
  (73, ⟨.struct [(25, 0, 3), (55, 3, 4), (71, 7, 256), (22, 263, 1), (4, 264, 1)], .agg ([Value.slice none 0 0, Value.slice none 0 0, Value.slice none 0 0, Value.slice none 0 0, Value.int .i64 0, Value.int .i64 0, Value.int .u64 0] ++ List.replicate 256 (Value.bool false) ++ [Value.slice none 0 0, Value.bool false]).toArray, 265, 408⟩),
  (78, ⟨.int .u8, Value.int .u8 0, 1, 1⟩),
  (80, ⟨.struct [(78, 0, 1), (3, 1, 1), (3, 2, 1), (5, 3, 1)], .agg #[Value.int .u8 0, Value.int .i64 0, Value.int .i64 0, Value.int .u8 0], 4, 32⟩),
  (84, ⟨.struct [(26, 0, 1), (26, 1, 1), (26, 2, 1), (3, 3, 1)], .agg #[Value.slice none 0 0, Value.slice none 0 0, Value.slice none 0 0, Value.int .i64 0], 4, 80⟩),
  (94, ⟨.int .u64, Value.int .u64 0, 1, 8⟩),
  (100, ⟨.arr 510 5, .agg (List.replicate 510 (Value.int .u8 0)).toArray, 510, 510⟩),
  (101, ⟨.arr 256 3, .agg (List.replicate 256 (Value.int .i64 0)).toArray, 256, 2048⟩),
  (103, ⟨.struct [(100, 0, 510), (101, 510, 256)], .agg (List.replicate 510 (Value.int .u8 0) ++ List.replicate 256 (Value.int .i64 0)).toArray, 766, 2560⟩),
  (105, ⟨.int .u32, Value.int .u32 0, 1, 4⟩)]
theorem tb : TabOK Try.prog tabl := (.cons ty3 (.cons ty4 (.cons ty5 (.cons ty9 (.cons ty22 (.cons ty23 (.cons ty25 (.cons ty26 (.cons ty27 (.cons ty29 (.cons ty39 (.cons ty41 (.cons ty51 (.cons ty52 (.cons ty53 (.cons ty55 (.cons ty62 (.cons ty69 (.cons ty71 (.cons ty73 (.cons ty78 (.cons ty80 (.cons ty84 (.cons ty94 (.cons ty100 (.cons ty101 (.cons ty103 (.cons ty105 TabOK.nil))))))))))))))))))))))))))))
theorem se80 : SE Try.prog 80 [(78, 0), (3, 1), (3, 2), (5, 3)] := ⟨by kernel_rfl, by kernel_rfl, by kernel_rfl, by kernel_rfl, by kernel_rfl⟩
theorem hmix : Try.prog.follows .mixedOrders = true := by kernel_rfl
theorem fi4 : FI Try.prog 4 Try.f4 := ⟨Try.func4, rfl, by decide⟩
theorem fi8 : FI Try.prog 8 Try.f8 := ⟨Try.func8, rfl, by decide⟩
theorem fi12 : FI Try.prog 12 Try.f12 := ⟨Try.func12, rfl, by decide⟩
theorem fi13 : FI Try.prog 13 Try.f13 := ⟨Try.func13, rfl, by decide⟩
theorem fi16 : FI Try.prog 16 Try.f16 := ⟨Try.func16, rfl, by decide⟩
theorem fi18 : FI Try.prog 18 Try.f18 := ⟨Try.func18, rfl, by decide⟩
theorem fi19 : FI Try.prog 19 Try.f19 := ⟨Try.func19, rfl, by decide⟩
theorem fi20 : FI Try.prog 20 Try.f20 := ⟨Try.func20, rfl, by decide⟩
theorem fi21 : FI Try.prog 21 Try.f21 := ⟨Try.func21, rfl, by decide⟩
theorem fi22 : FI Try.prog 22 Try.f22 := ⟨Try.func22, rfl, by decide⟩
theorem fi23 : FI Try.prog 23 Try.f23 := ⟨Try.func23, rfl, by decide⟩
theorem fi24 : FI Try.prog 24 Try.f24 := ⟨Try.func24, rfl, by decide⟩
theorem fi27 : FI Try.prog 27 Try.f27 := ⟨Try.func27, rfl, by decide⟩
theorem fi29 : FI Try.prog 29 Try.f29 := ⟨Try.func29, rfl, by decide⟩
theorem fi30 : FI Try.prog 30 Try.f30 := ⟨Try.func30, rfl, by decide⟩
theorem fi31 : FI Try.prog 31 Try.f31 := ⟨Try.func31, rfl, by decide⟩
theorem fi32 : FI Try.prog 32 Try.f32 := ⟨Try.func32, rfl, by decide⟩
theorem fi33 : FI Try.prog 33 Try.f33 := ⟨Try.func33, rfl, by decide⟩
theorem fi34 : FI Try.prog 34 Try.f34 := ⟨Try.func34, rfl, by decide⟩
theorem fi35 : FI Try.prog 35 Try.f35 := ⟨Try.func35, rfl, by decide⟩
theorem fi36 : FI Try.prog 36 Try.f36 := ⟨Try.func36, rfl, by decide⟩
theorem fi37 : FI Try.prog 37 Try.f37 := ⟨Try.func37, rfl, by decide⟩
theorem fi38 : FI Try.prog 38 Try.f38 := ⟨Try.func38, rfl, by decide⟩
theorem fi39 : FI Try.prog 39 Try.f39 := ⟨Try.func39, rfl, by decide⟩
theorem fi40 : FI Try.prog 40 Try.f40 := ⟨Try.func40, rfl, by decide⟩
theorem fi41 : FI Try.prog 41 Try.f41 := ⟨Try.func41, rfl, by decide⟩
theorem fi44 : FI Try.prog 44 Try.f44 := ⟨Try.func44, rfl, by decide⟩
theorem fi46 : FI Try.prog 46 Try.f46 := ⟨Try.func46, rfl, by decide⟩
theorem fi47 : FI Try.prog 47 Try.f47 := ⟨Try.func47, rfl, by decide⟩
theorem fi48 : FI Try.prog 48 Try.f48 := ⟨Try.func48, rfl, by decide⟩
theorem fi49 : FI Try.prog 49 Try.f49 := ⟨Try.func49, rfl, by decide⟩
theorem fi50 : FI Try.prog 50 Try.f50 := ⟨Try.func50, rfl, by decide⟩
theorem fi51 : FI Try.prog 51 Try.f51 := ⟨Try.func51, rfl, by decide⟩
theorem fi52 : FI Try.prog 52 Try.f52 := ⟨Try.func52, rfl, by decide⟩
theorem fi53 : FI Try.prog 53 Try.f53 := ⟨Try.func53, rfl, by decide⟩
theorem fi54 : FI Try.prog 54 Try.f54 := ⟨Try.func54, rfl, by decide⟩
theorem fi56 : FI Try.prog 56 Try.f56 := ⟨Try.func56, rfl, by decide⟩
theorem fi57 : FI Try.prog 57 Try.f57 := ⟨Try.func57, rfl, by decide⟩
theorem fi58 : FI Try.prog 58 Try.f58 := ⟨Try.func58, rfl, by decide⟩
end Go.RL
