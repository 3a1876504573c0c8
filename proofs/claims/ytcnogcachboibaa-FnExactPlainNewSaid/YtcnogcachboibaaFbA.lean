/- Types of the program, as far as the proof needs them. -/
import Derived.Test.YtcnogcachboibaaFwRead
import Derived.Test.YtcnogcachboibaaFwExt
import Derived.Test.YtcnogcachboibaaFwE3
import Derived.Test.YtcnogcachboibaaProg
namespace Go.Proofs.Ytcnogcachboibaa.Fw
open Go
open Go.Proofs.Try
set_option maxRecDepth 100000
def tb : Tab := fun t => match t with
  | 3 => some ⟨.int .i64, 1, 8, [.v (.int .i64 0)], [], [0]⟩
  | 4 => some ⟨.bool, 1, 1, [.v (.bool false)], [], [0]⟩
  | 5 => some ⟨.int .u8, 1, 1, [.v (.int .u8 0)], [], [0]⟩
  | 9 => some ⟨.str, 1, 16, [.v (vS [])], [], [0]⟩
  | 23 => some ⟨.struct, 5, 48, [.v (.int .i64 0), .v (.int .i64 0), .v (.int .i64 0), .v (.int .i64 0), .v (vS [])], [0, 1, 2, 3, 4], [0, 0, 0, 0, 0]⟩
  | 25 => some ⟨.struct, 5, 48, [.v (.int .i64 0), .v (.int .i64 0), .v (.int .i64 0), .v (.int .i64 0), .v (vS [])], [0, 1, 2, 3, 4], [0, 0, 0, 0, 0]⟩
  | 26 => some ⟨.slice 77, 1, 24, [.nil], [], [77]⟩
  | 28 => some ⟨.struct, 4, 48, [.v (.bool false), .v (.int .i64 0), .v (vS []), .v (vS [])], [0, 1, 2, 3], [0, 0, 0, 0]⟩
  | 30 => some ⟨.struct, 12, 136, [.v (.int .i64 0), .v (.int .i64 0), .v (.int .i64 0), .v (.int .i64 0), .v (vS []), .nil, .v (.int .i64 0), .v (.bool false), .v (.bool false), .v (.int .i64 0), .v (vS []), .v (vS [])], [0, 5, 6, 7, 8], [0, 0, 0, 0, 0, 77, 0, 0, 0, 0, 0, 0]⟩
  | 61 => some ⟨.slice 101, 1, 24, [.nil], [], [101]⟩
  | 63 => some ⟨.struct, 2, 32, [.nil, .v (.int .i64 0)], [0, 1], [101, 0]⟩
  | 66 => some ⟨.struct, 7, 88, [.nil, .v (.int .i64 0), .v (.int .i64 0), .v (.int .i64 0), .v (.int .i64 0), .v (.int .i64 0), .nil], [0, 2, 3, 4, 5, 6], [101, 0, 0, 0, 0, 0, 125]⟩
  | 71 => some ⟨.struct, 2, 32, [.v (.int .i64 0), .nil], [0, 1], [0, 129]⟩
  | 77 => some ⟨.struct, 6, 72, [.v (.int .i64 0), .v (.int .i64 0), .v (.int .i64 0), .v (vS []), .v (vS []), .v (vS [])], [0, 1, 2, 3, 4, 5], [0, 0, 0, 0, 0, 0]⟩
  | 82 => some ⟨.slice 5, 1, 24, [.nil], [], [5]⟩
  | 87 => some ⟨.other, 1, 8, [.v .nilFunc], [], [0]⟩
  | 101 => some ⟨.struct, 2, 24, [.v (vS []), .v (.int .i64 0)], [0, 1], [0, 0]⟩
  | _ => none
theorem tbOk : TabOk prog tb := by
  intro t i h
  unfold tb at h
  split at h
  · injection h with h; subst h; exact ⟨underlying3, ⟨(prog.info? 3).get rfl, .int .i64 0, rfl, rfl, rfl, rfl, rfl, rfl, rfl⟩, rfl, rfl, fun _ => rfl, by decide⟩
  · injection h with h; subst h; exact ⟨underlying4, ⟨(prog.info? 4).get rfl, .bool false, rfl, rfl, rfl, rfl, rfl, rfl, rfl⟩, rfl, rfl, fun _ => rfl, by decide⟩
  · injection h with h; subst h; exact ⟨underlying5, ⟨(prog.info? 5).get rfl, .int .u8 0, rfl, rfl, rfl, rfl, rfl, rfl, rfl⟩, rfl, rfl, fun _ => rfl, by decide⟩
  · injection h with h; subst h; exact ⟨underlying9, ⟨(prog.info? 9).get rfl, .string ⟨#[]⟩, rfl, rfl, rfl, rfl, rfl, rfl, rfl⟩, rfl, rfl, fun _ => rfl, by decide⟩
  · injection h with h; subst h
    refine ⟨⟨_, underlying23, by decide, fun f off h => ?_⟩, ⟨(prog.info? 23).get rfl, .agg #[.int .i64 0, .int .i64 0, .int .i64 0, .int .i64 0, .string ⟨#[]⟩], rfl, rfl, rfl, rfl, rfl, rfl, rfl⟩, rfl, rfl, fun h => (by cases h), by decide⟩
    match f, h with
    | 0, h => injection h with h; subst h; exact ⟨_, rfl, rfl, _, rfl, by decide, rfl⟩
    | 1, h => injection h with h; subst h; exact ⟨_, rfl, rfl, _, rfl, by decide, rfl⟩
    | 2, h => injection h with h; subst h; exact ⟨_, rfl, rfl, _, rfl, by decide, rfl⟩
    | 3, h => injection h with h; subst h; exact ⟨_, rfl, rfl, _, rfl, by decide, rfl⟩
    | 4, h => injection h with h; subst h; exact ⟨_, rfl, rfl, _, rfl, by decide, rfl⟩
    | n + 5, h => cases h
  · injection h with h; subst h
    refine ⟨⟨_, underlying25, by decide, fun f off h => ?_⟩, ⟨(prog.info? 25).get rfl, .agg #[.int .i64 0, .int .i64 0, .int .i64 0, .int .i64 0, .string ⟨#[]⟩], rfl, rfl, rfl, rfl, rfl, rfl, rfl⟩, rfl, rfl, fun h => (by cases h), by decide⟩
    match f, h with
    | 0, h => injection h with h; subst h; exact ⟨_, rfl, rfl, _, rfl, by decide, rfl⟩
    | 1, h => injection h with h; subst h; exact ⟨_, rfl, rfl, _, rfl, by decide, rfl⟩
    | 2, h => injection h with h; subst h; exact ⟨_, rfl, rfl, _, rfl, by decide, rfl⟩
    | 3, h => injection h with h; subst h; exact ⟨_, rfl, rfl, _, rfl, by decide, rfl⟩
    | 4, h => injection h with h; subst h; exact ⟨_, rfl, rfl, _, rfl, by decide, rfl⟩
    | n + 5, h => cases h
  · injection h with h; subst h; exact ⟨⟨underlying26, _, rfl⟩, ⟨(prog.info? 26).get rfl, .slice none 0 0, rfl, rfl, rfl, rfl, rfl, rfl, rfl⟩, rfl, rfl, fun _ => rfl, by decide⟩
  · injection h with h; subst h
    refine ⟨⟨_, underlying28, by decide, fun f off h => ?_⟩, ⟨(prog.info? 28).get rfl, .agg #[.bool false, .int .i64 0, .string ⟨#[]⟩, .string ⟨#[]⟩], rfl, rfl, rfl, rfl, rfl, rfl, rfl⟩, rfl, rfl, fun h => (by cases h), by decide⟩
    match f, h with
    | 0, h => injection h with h; subst h; exact ⟨_, rfl, rfl, _, rfl, by decide, rfl⟩
    | 1, h => injection h with h; subst h; exact ⟨_, rfl, rfl, _, rfl, by decide, rfl⟩
    | 2, h => injection h with h; subst h; exact ⟨_, rfl, rfl, _, rfl, by decide, rfl⟩
    | 3, h => injection h with h; subst h; exact ⟨_, rfl, rfl, _, rfl, by decide, rfl⟩
    | n + 4, h => cases h
  · injection h with h; subst h
    refine ⟨⟨_, underlying30, by decide, fun f off h => ?_⟩, ⟨(prog.info? 30).get rfl, .agg #[.int .i64 0, .int .i64 0, .int .i64 0, .int .i64 0, .string ⟨#[]⟩, .slice none 0 0, .int .i64 0, .bool false, .bool false, .int .i64 0, .string ⟨#[]⟩, .string ⟨#[]⟩], rfl, rfl, rfl, rfl, rfl, rfl, rfl⟩, rfl, rfl, fun h => (by cases h), by decide⟩
    match f, h with
    | 0, h => injection h with h; subst h; exact ⟨_, rfl, rfl, _, rfl, by decide, rfl⟩
    | 1, h => injection h with h; subst h; exact ⟨_, rfl, rfl, _, rfl, by decide, rfl⟩
    | 2, h => injection h with h; subst h; exact ⟨_, rfl, rfl, _, rfl, by decide, rfl⟩
    | 3, h => injection h with h; subst h; exact ⟨_, rfl, rfl, _, rfl, by decide, rfl⟩
    | 4, h => injection h with h; subst h; exact ⟨_, rfl, rfl, _, rfl, by decide, rfl⟩
    | n + 5, h => cases h
  · injection h with h; subst h; exact ⟨⟨underlying61, _, rfl⟩, ⟨(prog.info? 61).get rfl, .slice none 0 0, rfl, rfl, rfl, rfl, rfl, rfl, rfl⟩, rfl, rfl, fun _ => rfl, by decide⟩
  · injection h with h; subst h
    refine ⟨⟨_, underlying63, by decide, fun f off h => ?_⟩, ⟨(prog.info? 63).get rfl, .agg #[.slice none 0 0, .int .i64 0], rfl, rfl, rfl, rfl, rfl, rfl, rfl⟩, rfl, rfl, fun h => (by cases h), by decide⟩
    match f, h with
    | 0, h => injection h with h; subst h; exact ⟨_, rfl, rfl, _, rfl, by decide, rfl⟩
    | 1, h => injection h with h; subst h; exact ⟨_, rfl, rfl, _, rfl, by decide, rfl⟩
    | n + 2, h => cases h
  · injection h with h; subst h
    refine ⟨⟨_, underlying66, by decide, fun f off h => ?_⟩, ⟨(prog.info? 66).get rfl, .agg #[.slice none 0 0, .int .i64 0, .int .i64 0, .int .i64 0, .int .i64 0, .int .i64 0, .slice none 0 0], rfl, rfl, rfl, rfl, rfl, rfl, rfl⟩, rfl, rfl, fun h => (by cases h), by decide⟩
    match f, h with
    | 0, h => injection h with h; subst h; exact ⟨_, rfl, rfl, _, rfl, by decide, rfl⟩
    | 1, h => injection h with h; subst h; exact ⟨_, rfl, rfl, _, rfl, by decide, rfl⟩
    | 2, h => injection h with h; subst h; exact ⟨_, rfl, rfl, _, rfl, by decide, rfl⟩
    | 3, h => injection h with h; subst h; exact ⟨_, rfl, rfl, _, rfl, by decide, rfl⟩
    | 4, h => injection h with h; subst h; exact ⟨_, rfl, rfl, _, rfl, by decide, rfl⟩
    | 5, h => injection h with h; subst h; exact ⟨_, rfl, rfl, _, rfl, by decide, rfl⟩
    | n + 6, h => cases h
  · injection h with h; subst h
    refine ⟨⟨_, underlying71, by decide, fun f off h => ?_⟩, ⟨(prog.info? 71).get rfl, .agg #[.int .i64 0, .slice none 0 0], rfl, rfl, rfl, rfl, rfl, rfl, rfl⟩, rfl, rfl, fun h => (by cases h), by decide⟩
    match f, h with
    | 0, h => injection h with h; subst h; exact ⟨_, rfl, rfl, _, rfl, by decide, rfl⟩
    | 1, h => injection h with h; subst h; exact ⟨_, rfl, rfl, _, rfl, by decide, rfl⟩
    | n + 2, h => cases h
  · injection h with h; subst h
    refine ⟨⟨_, underlying77, by decide, fun f off h => ?_⟩, ⟨(prog.info? 77).get rfl, .agg #[.int .i64 0, .int .i64 0, .int .i64 0, .string ⟨#[]⟩, .string ⟨#[]⟩, .string ⟨#[]⟩], rfl, rfl, rfl, rfl, rfl, rfl, rfl⟩, rfl, rfl, fun h => (by cases h), by decide⟩
    match f, h with
    | 0, h => injection h with h; subst h; exact ⟨_, rfl, rfl, _, rfl, by decide, rfl⟩
    | 1, h => injection h with h; subst h; exact ⟨_, rfl, rfl, _, rfl, by decide, rfl⟩
    | 2, h => injection h with h; subst h; exact ⟨_, rfl, rfl, _, rfl, by decide, rfl⟩
    | 3, h => injection h with h; subst h; exact ⟨_, rfl, rfl, _, rfl, by decide, rfl⟩
    | 4, h => injection h with h; subst h; exact ⟨_, rfl, rfl, _, rfl, by decide, rfl⟩
    | 5, h => injection h with h; subst h; exact ⟨_, rfl, rfl, _, rfl, by decide, rfl⟩
    | n + 6, h => cases h
  · injection h with h; subst h; exact ⟨⟨underlying82, _, rfl⟩, ⟨(prog.info? 82).get rfl, .slice none 0 0, rfl, rfl, rfl, rfl, rfl, rfl, rfl⟩, rfl, rfl, fun _ => rfl, by decide⟩
  · injection h with h; subst h; exact ⟨⟨_, underlying87, trivial⟩, ⟨(prog.info? 87).get rfl, .nilFunc, rfl, rfl, rfl, rfl, rfl, rfl, rfl⟩, rfl, rfl, fun _ => rfl, by decide⟩
  · injection h with h; subst h
    refine ⟨⟨_, underlying101, by decide, fun f off h => ?_⟩, ⟨(prog.info? 101).get rfl, .agg #[.string ⟨#[]⟩, .int .i64 0], rfl, rfl, rfl, rfl, rfl, rfl, rfl⟩, rfl, rfl, fun h => (by cases h), by decide⟩
    match f, h with
    | 0, h => injection h with h; subst h; exact ⟨_, rfl, rfl, _, rfl, by decide, rfl⟩
    | 1, h => injection h with h; subst h; exact ⟨_, rfl, rfl, _, rfl, by decide, rfl⟩
    | n + 2, h => cases h
  · cases h
theorem tb_3 : tb 3 = some ⟨.int .i64, 1, 8, [.v (.int .i64 0)], [], [0]⟩ := rfl
theorem kd_3 : tb.kd 3 = some (.int .i64) := rfl
theorem tb_4 : tb 4 = some ⟨.bool, 1, 1, [.v (.bool false)], [], [0]⟩ := rfl
theorem kd_4 : tb.kd 4 = some (.bool) := rfl
theorem tb_5 : tb 5 = some ⟨.int .u8, 1, 1, [.v (.int .u8 0)], [], [0]⟩ := rfl
theorem kd_5 : tb.kd 5 = some (.int .u8) := rfl
theorem tb_9 : tb 9 = some ⟨.str, 1, 16, [.v (vS [])], [], [0]⟩ := rfl
theorem kd_9 : tb.kd 9 = some (.str) := rfl
theorem tb_23 : tb 23 = some ⟨.struct, 5, 48, [.v (.int .i64 0), .v (.int .i64 0), .v (.int .i64 0), .v (.int .i64 0), .v (vS [])], [0, 1, 2, 3, 4], [0, 0, 0, 0, 0]⟩ := rfl
theorem kd_23 : tb.kd 23 = some (.struct) := rfl
theorem tb_25 : tb 25 = some ⟨.struct, 5, 48, [.v (.int .i64 0), .v (.int .i64 0), .v (.int .i64 0), .v (.int .i64 0), .v (vS [])], [0, 1, 2, 3, 4], [0, 0, 0, 0, 0]⟩ := rfl
theorem kd_25 : tb.kd 25 = some (.struct) := rfl
theorem tb_26 : tb 26 = some ⟨.slice 77, 1, 24, [.nil], [], [77]⟩ := rfl
theorem kd_26 : tb.kd 26 = some (.slice 77) := rfl
theorem tb_28 : tb 28 = some ⟨.struct, 4, 48, [.v (.bool false), .v (.int .i64 0), .v (vS []), .v (vS [])], [0, 1, 2, 3], [0, 0, 0, 0]⟩ := rfl
theorem kd_28 : tb.kd 28 = some (.struct) := rfl
theorem tb_30 : tb 30 = some ⟨.struct, 12, 136, [.v (.int .i64 0), .v (.int .i64 0), .v (.int .i64 0), .v (.int .i64 0), .v (vS []), .nil, .v (.int .i64 0), .v (.bool false), .v (.bool false), .v (.int .i64 0), .v (vS []), .v (vS [])], [0, 5, 6, 7, 8], [0, 0, 0, 0, 0, 77, 0, 0, 0, 0, 0, 0]⟩ := rfl
theorem kd_30 : tb.kd 30 = some (.struct) := rfl
theorem tb_61 : tb 61 = some ⟨.slice 101, 1, 24, [.nil], [], [101]⟩ := rfl
theorem kd_61 : tb.kd 61 = some (.slice 101) := rfl
theorem tb_63 : tb 63 = some ⟨.struct, 2, 32, [.nil, .v (.int .i64 0)], [0, 1], [101, 0]⟩ := rfl
theorem kd_63 : tb.kd 63 = some (.struct) := rfl
theorem tb_66 : tb 66 = some ⟨.struct, 7, 88, [.nil, .v (.int .i64 0), .v (.int .i64 0), .v (.int .i64 0), .v (.int .i64 0), .v (.int .i64 0), .nil], [0, 2, 3, 4, 5, 6], [101, 0, 0, 0, 0, 0, 125]⟩ := rfl
theorem kd_66 : tb.kd 66 = some (.struct) := rfl
theorem tb_71 : tb 71 = some ⟨.struct, 2, 32, [.v (.int .i64 0), .nil], [0, 1], [0, 129]⟩ := rfl
theorem kd_71 : tb.kd 71 = some (.struct) := rfl
theorem tb_77 : tb 77 = some ⟨.struct, 6, 72, [.v (.int .i64 0), .v (.int .i64 0), .v (.int .i64 0), .v (vS []), .v (vS []), .v (vS [])], [0, 1, 2, 3, 4, 5], [0, 0, 0, 0, 0, 0]⟩ := rfl
theorem kd_77 : tb.kd 77 = some (.struct) := rfl
theorem tb_82 : tb 82 = some ⟨.slice 5, 1, 24, [.nil], [], [5]⟩ := rfl
theorem kd_82 : tb.kd 82 = some (.slice 5) := rfl
theorem tb_87 : tb 87 = some ⟨.other, 1, 8, [.v .nilFunc], [], [0]⟩ := rfl
theorem kd_87 : tb.kd 87 = some (.other) := rfl
theorem tb_101 : tb 101 = some ⟨.struct, 2, 24, [.v (vS []), .v (.int .i64 0)], [0, 1], [0, 0]⟩ := rfl
theorem kd_101 : tb.kd 101 = some (.struct) := rfl
def pts : FuncId → List TypeId := fun f => match f with
  | 3 => [23]
  | 5 => [23, 3]
  | 6 => [25]
  | 7 => [23]
  | 8 => [25]
  | 9 => [30, 30]
  | 10 => [30, 3]
  | 11 => [30, 3]
  | 19 => [25]
  | 20 => [25]
  | 21 => [25, 25]
  | 22 => [26, 26]
  | 23 => [28, 28]
  | 24 => [26, 3]
  | 25 => [26, 3]
  | 28 => [9]
  | 33 => [9]
  | 37 => [3]
  | 38 => [3, 3, 3]
  | 39 => [3]
  | 40 => [3, 3, 3]
  | 41 => [3]
  | 42 => [77, 77]
  | 44 => [9]
  | 48 => [9]
  | 52 => [3]
  | 53 => [3]
  | 54 => [3, 3, 3]
  | 57 => [5]
  | 59 => [9, 87]
  | 62 => [5]
  | 69 => [63]
  | 71 => [5]
  | 72 => [5]
  | 73 => [5]
  | 74 => [9, 5]
  | 77 => [5]
  | 78 => [5]
  | 79 => [5]
  | 80 => [9, 5]
  | 84 => [9, 5]
  | 87 => [9, 5]
  | _ => []
theorem pts_3 : pts 3 = [23] := rfl
theorem pts_5 : pts 5 = [23, 3] := rfl
theorem pts_6 : pts 6 = [25] := rfl
theorem pts_7 : pts 7 = [23] := rfl
theorem pts_8 : pts 8 = [25] := rfl
theorem pts_9 : pts 9 = [30, 30] := rfl
theorem pts_10 : pts 10 = [30, 3] := rfl
theorem pts_11 : pts 11 = [30, 3] := rfl
theorem pts_19 : pts 19 = [25] := rfl
theorem pts_20 : pts 20 = [25] := rfl
theorem pts_21 : pts 21 = [25, 25] := rfl
theorem pts_22 : pts 22 = [26, 26] := rfl
theorem pts_23 : pts 23 = [28, 28] := rfl
theorem pts_24 : pts 24 = [26, 3] := rfl
theorem pts_25 : pts 25 = [26, 3] := rfl
theorem pts_28 : pts 28 = [9] := rfl
theorem pts_33 : pts 33 = [9] := rfl
theorem pts_37 : pts 37 = [3] := rfl
theorem pts_38 : pts 38 = [3, 3, 3] := rfl
theorem pts_39 : pts 39 = [3] := rfl
theorem pts_40 : pts 40 = [3, 3, 3] := rfl
theorem pts_41 : pts 41 = [3] := rfl
theorem pts_42 : pts 42 = [77, 77] := rfl
theorem pts_44 : pts 44 = [9] := rfl
theorem pts_48 : pts 48 = [9] := rfl
theorem pts_52 : pts 52 = [3] := rfl
theorem pts_53 : pts 53 = [3] := rfl
theorem pts_54 : pts 54 = [3, 3, 3] := rfl
theorem pts_57 : pts 57 = [5] := rfl
theorem pts_59 : pts 59 = [9, 87] := rfl
theorem pts_62 : pts 62 = [5] := rfl
theorem pts_69 : pts 69 = [63] := rfl
theorem pts_71 : pts 71 = [5] := rfl
theorem pts_72 : pts 72 = [5] := rfl
theorem pts_73 : pts 73 = [5] := rfl
theorem pts_74 : pts 74 = [9, 5] := rfl
theorem pts_77 : pts 77 = [5] := rfl
theorem pts_78 : pts 78 = [5] := rfl
theorem pts_79 : pts 79 = [5] := rfl
theorem pts_80 : pts 80 = [9, 5] := rfl
theorem pts_84 : pts 84 = [9, 5] := rfl
theorem pts_87 : pts 87 = [9, 5] := rfl
def md : FuncId → Nat → Nat := fun _ _ => 0
def cfg (np : Nat) : Cfg := ⟨np, fun _ => false, tb, pts, md⟩
end Go.Proofs.Ytcnogcachboibaa.Fw
