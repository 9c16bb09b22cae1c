/-  Made by wip/Gen.lean: the program's table of types and the plans of its regions that draw their order. -/
import Derived.Test.YtijphjckgdomlaaAm20
set_option linter.all false
namespace Am
open Go Go.Proofs
def tab : Tab := [
  (3, ⟨.int .i64, 1, 8, (.int .i64 0)⟩),
  (24, ⟨.struct [(0, 3), (1, 3), (2, 22)] true, 3, 40, (.agg #[(.int .i64 0), (.int .i64 0), (.slice none 0 0)])⟩),
  (45, ⟨.struct [(0, 3), (1, 3), (2, 41), (4, 3), (5, 9), (6, 9), (7, 43), (8, 3), (9, 3), (10, 3), (11, 3)] true, 12, 112, (.agg #[(.int .i64 0), (.int .i64 0), (.int .i64 0), (.int .i64 0), (.int .i64 0), (.string ⟨#[]⟩), (.string ⟨#[]⟩), (.int .u64 0), (.int .i64 0), (.int .i64 0), (.int .i64 0), (.int .i64 0)])⟩),
  (22, ⟨.slice 45, 1, 24, (.slice none 0 0)⟩),
  (47, ⟨.struct [(0, 3), (1, 45), (13, 3), (14, 3)] true, 15, 136, (.agg #[(.int .i64 0), (.int .i64 0), (.int .i64 0), (.int .i64 0), (.int .i64 0), (.int .i64 0), (.string ⟨#[]⟩), (.string ⟨#[]⟩), (.int .u64 0), (.int .i64 0), (.int .i64 0), (.int .i64 0), (.int .i64 0), (.int .i64 0), (.int .i64 0)])⟩),
  (4, ⟨.bool, 1, 1, (.bool false)⟩),
  (9, ⟨.string, 1, 16, (.string ⟨#[]⟩)⟩),
  (25, ⟨.slice 47, 1, 24, (.slice none 0 0)⟩),
  (41, ⟨.struct [(0, 3), (1, 3)] true, 2, 16, (.agg #[(.int .i64 0), (.int .i64 0)])⟩),
  (59, ⟨.slice 5, 1, 24, (.slice none 0 0)⟩),
  (5, ⟨.int .u8, 1, 1, (.int .u8 0)⟩),
  (32, ⟨.slice 22, 1, 24, (.slice none 0 0)⟩),
  (21, ⟨.int .i32, 1, 4, (.int .i32 0)⟩),
  (43, ⟨.int .u64, 1, 8, (.int .u64 0)⟩),
  (50, ⟨.slice 3, 1, 24, (.slice none 0 0)⟩),
  (62, ⟨.int .i64, 1, 8, (.int .i64 0)⟩),
  (72, ⟨.slice 4, 1, 24, (.slice none 0 0)⟩),
  (101, ⟨.struct [(0, 59)] true, 1, 24, (.agg #[(.slice none 0 0)])⟩),
  (37, ⟨.iface false, 1, 16, .nilIface⟩),
  (80, ⟨.ptr 101, 1, 8, (.pointer none)⟩),
  (90, ⟨.struct [(0, 3)] true, 1, 8, (.agg #[(.int .i64 0)])⟩),
  (88, ⟨.struct [(0, 3)] true, 1, 8, (.agg #[(.int .i64 0)])⟩),
  (85, ⟨.struct [(0, 45)] true, 12, 112, (.agg #[(.int .i64 0), (.int .i64 0), (.int .i64 0), (.int .i64 0), (.int .i64 0), (.string ⟨#[]⟩), (.string ⟨#[]⟩), (.int .u64 0), (.int .i64 0), (.int .i64 0), (.int .i64 0), (.int .i64 0)])⟩),
  (42, ⟨.int .u64, 1, 8, (.int .u64 0)⟩),
  (95, ⟨.map 3 3, 1, 8, (.map none)⟩),
  (92, ⟨.map 3 45, 1, 8, (.map none)⟩),
  (78, ⟨.iface false, 1, 16, .nilIface⟩)]
theorem tab_ok : TabOk Try.prog tab := by
  have h : mkTab Try.prog [3, 24, 45, 22, 47, 4, 9, 25, 41, 59, 5, 32, 21, 43, 50, 62, 72, 101, 37, 80, 90, 88, 85, 42, 95, 92, 78] = tab := by kernel_rfl
  rw [← h]
  exact mkTab_ok _ _
theorem mixed : Try.prog.follows .mixedOrders = true := by kernel_rfl
def muts : List Nat := [50, 51, 52, 53]
def cfg2 : Cfg := { muts := [], plans := [] }
def cfg3 : Cfg := { muts := [], plans := [] }
def cfg4 : Cfg := { muts := [], plans := [(7, (tk [0, 1, 2, 3, 4] (.eff 5 (tk [6, 7, 8] (.one 9 (.one 10 (tk [11] .done)))) (.eff 9 (.one 5 (tk [6, 7, 8] (.one 10 (tk [11] .done)))) .no))))] }
def cfg5 : Cfg := { muts := [], plans := [(8, (tk [0, 1, 2, 3, 4] (.eff 5 (tk [6, 7, 8] (.one 9 (.one 10 (tk [11] .done)))) (.eff 9 (.one 5 (tk [6, 7, 8] (.one 10 (tk [11] .done)))) .no)))),
  (13, (tk [0, 1, 2, 3, 4, 5, 6, 7] (.one 8 (tk [9] .done)))),
  (19, (tk [0, 1, 2, 3, 4, 5] (.one 6 .done)))] }
def cfg6 : Cfg := { muts := [], plans := [] }
def cfg7 : Cfg := { muts := [], plans := [] }
def cfg8 : Cfg := { muts := [], plans := [] }
def cfg9 : Cfg := { muts := [], plans := [] }
def cfg10 : Cfg := { muts := [], plans := [(5, (tk [0, 1, 2, 3, 4] (.eff 5 (tk [6, 7, 8] (.one 9 (.one 10 (tk [11] .done)))) (.eff 9 (.one 5 (tk [6, 7, 8] (.one 10 (tk [11] .done)))) .no))))] }
def cfg11 : Cfg := { muts := [], plans := [] }
def cfg12 : Cfg := { muts := [], plans := [(7, (tk [0, 1, 2, 3, 4, 5, 6] (.one 7 (tk [8] (.one 9 .done))))),
  (25, (tk [0, 1, 2, 3, 4, 5, 6, 7, 8, 9, 10, 11, 12, 13, 14, 15, 16, 17, 18, 19, 20, 21, 22, 23, 24, 25, 26, 27, 28] .done))] }
def cfg13 : Cfg := { muts := [], plans := [] }
def cfg14 : Cfg := { muts := [], plans := [] }
def cfg15 : Cfg := { muts := [], plans := [] }
def cfg16 : Cfg := { muts := [], plans := [(9, (tk [0, 1, 3, 4] (.eff 2 (.one 5 (.one 6 (tk [7] (.one 8 .done)))) (.eff 5 (.one 2 (.one 6 (tk [7] (.one 8 .done)))) .no))))] }
def cfg17 : Cfg := { muts := [], plans := [(7, (tk [0, 1, 2, 3, 4, 5, 6, 7, 8, 9, 10, 11, 12, 13, 14, 15, 16, 17, 18, 19, 20, 21, 22, 23, 24, 25, 26, 27, 28, 29, 30, 31, 32, 33, 34, 35, 36, 37, 38, 39, 40, 41, 42, 43, 44, 45, 46, 47, 48, 49, 50, 51, 52, 53] .done)),
  (12, (tk [0, 1, 2, 3, 4, 5, 6, 7, 8, 9, 10] .done)),
  (16, (tk [0, 1, 2, 3, 4, 5, 6, 7] (.one 8 (tk [9, 10] .done))))] }
def cfg18 : Cfg := { muts := [], plans := [] }
def cfg19 : Cfg := { muts := [], plans := [] }
def cfg20 : Cfg := { muts := [], plans := [] }
def cfg21 : Cfg := { muts := [], plans := [] }
def cfg22 : Cfg := { muts := [], plans := [] }
def cfg23 : Cfg := { muts := [], plans := [] }
def cfg24 : Cfg := { muts := [], plans := [(20, (tk [0, 1, 2, 3, 4, 5, 6, 7, 8, 9] (.one 10 (.one 11 (tk [12] .done))))),
  (27, (tk [0, 1, 2, 3, 4, 5, 6, 7, 8, 9, 10, 11, 12] (.one 13 (.one 14 (tk [15] .done)))))] }
def cfg25 : Cfg := { muts := [], plans := [(6, (tk [0, 1, 2, 3, 4, 5, 6, 7, 8] .done))] }
def cfg26 : Cfg := { muts := [], plans := [] }
def cfg27 : Cfg := { muts := [], plans := [] }
def cfg28 : Cfg := { muts := [], plans := [(9, (tk [0, 1, 2, 3, 4, 5] .done))] }
def cfg29 : Cfg := { muts := [], plans := [] }
def cfg30 : Cfg := { muts := [50, 51, 52, 53], plans := [] }
def cfg31 : Cfg := { muts := [], plans := [] }
def cfg32 : Cfg := { muts := [], plans := [] }
def cfg33 : Cfg := { muts := [], plans := [] }
def cfg34 : Cfg := { muts := [], plans := [] }
def cfg35 : Cfg := { muts := [], plans := [] }
def cfg36 : Cfg := { muts := [], plans := [] }
def cfg37 : Cfg := { muts := [], plans := [(4, (tk [0, 1, 2, 3, 4, 5, 6, 7, 8, 9, 10, 11, 12, 13, 14, 15, 16, 17, 18, 19, 20, 21, 22, 23, 24, 25] .done))] }
def cfg38 : Cfg := { muts := [], plans := [] }
def cfg39 : Cfg := { muts := [], plans := [] }
def cfg40 : Cfg := { muts := [], plans := [] }
def cfg41 : Cfg := { muts := [], plans := [] }
def cfg42 : Cfg := { muts := [], plans := [] }
def cfg43 : Cfg := { muts := [], plans := [(10, (tk [0, 1, 2, 3, 4, 5, 6, 7, 8] .done))] }
def cfg44 : Cfg := { muts := [], plans := [] }
def cfg45 : Cfg := { muts := [], plans := [(7, (tk [0, 1, 2, 3, 4, 5, 6] (.one 7 (.one 8 (tk [9] (.one 10 .done))))))] }
def cfg46 : Cfg := { muts := [], plans := [] }
def cfg47 : Cfg := { muts := [], plans := [(9, (tk [0, 1, 2, 3, 4, 5] .done))] }
def cfg48 : Cfg := { muts := [], plans := [(5, (tk [0, 1, 2, 3, 4, 5, 6, 7] (.one 8 .done))),
  (7, (tk [0, 1, 2, 3, 4, 5, 6, 7] (.one 8 .done))),
  (9, (tk [0, 1, 2, 3, 4, 5, 6, 7] (.one 8 .done)))], mname := "lineage/event.may", meths := [(85, 80), (88, 91), (90, 92)] }
def cfg49 : Cfg := { muts := [], plans := [] }
def cfg50 : Cfg := { muts := [51], plans := [] }
def cfg51 : Cfg := { muts := [], plans := [] }
def cfg52 : Cfg := { muts := [51], plans := [] }
def cfg53 : Cfg := { muts := [], plans := [] }
def cfg54 : Cfg := { muts := [], plans := [] }
def cfg55 : Cfg := { muts := [], plans := [] }
def cfg56 : Cfg := { muts := [], plans := [] }
def cfg57 : Cfg := { muts := [], plans := [] }
def cfg58 : Cfg := { muts := [], plans := [] }
def cfg59 : Cfg := { muts := [], plans := [(10, (tk [0, 1, 2, 3, 4, 5, 6, 7, 8, 9, 10, 11, 12, 13, 14, 15, 16, 17, 18, 19, 20, 21, 22, 23, 24, 25, 26, 27, 28, 29, 30, 31, 32, 33, 34, 35] (.one 36 .done)))] }
def cfg60 : Cfg := { muts := [], plans := [] }
def cfg61 : Cfg := { muts := [], plans := [] }
def cfg62 : Cfg := { muts := [], plans := [] }
def cfg63 : Cfg := { muts := [], plans := [] }
def cfg80 : Cfg := { muts := [], plans := [] }
def cfg81 : Cfg := { muts := [], plans := [] }
def cfg82 : Cfg := { muts := [], plans := [] }
def cfg83 : Cfg := { muts := [], plans := [] }
def cfg84 : Cfg := { muts := [], plans := [(6, (tk [0, 1, 2, 3, 4, 5, 6] .done)),
  (7, (tk [0, 1, 2, 3, 4, 5, 6] (.one 7 (tk [8] .done)))),
  (14, (tk [0, 1, 2, 3, 4, 5, 6, 7, 8, 9, 10] .done)),
  (31, (tk [0, 1, 2, 3, 4, 5, 6, 7, 8, 9, 10] .done))] }
def cfg85 : Cfg := { muts := [], plans := [] }
def cfg86 : Cfg := { muts := [], plans := [] }
def cfg87 : Cfg := { muts := [], plans := [] }
def cfg89 : Cfg := { muts := [], plans := [] }
def cfg91 : Cfg := { muts := [], plans := [] }
def cfg92 : Cfg := { muts := [], plans := [] }
end Am
