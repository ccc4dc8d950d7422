import Derived.Test.YtjiijacibpgciaaGreatVE
import Derived.Test.YtjiijacibpgciaaGreatRows
/- What the program's types are, by a program. -/
set_option linter.unusedSimpArgs false
set_option linter.unusedVariables false
set_option linter.unusedSectionVars false
namespace Go.Proofs.YtjiijacibpgciaaGreat
open Go.V
attribute [simp] fzx_f fzx_t
/-- The zero datum's cells. -/
def zeroCells : List AV := [.sc (.int .i64 0), .sc (.int .i64 0), .sc (.string ⟨⟨[]⟩⟩), .emp 0, .emp 0, .emp 0]
@[simp] theorem zeroCells_length : zeroCells.length = 6 := rfl
@[simp] theorem zeroCells_take : List.take 6 zeroCells = zeroCells := rfl
@[simp] theorem zeroCells_drop : List.drop 6 zeroCells = [] := rfl
@[simp] theorem okc_nilFunc : AV.okc (.sc .nilFunc) = true := Eq.trans rfl rfl
@[simp] theorem cells_nilFunc : AV.cells (.sc .nilFunc) = [.sc .nilFunc] := Eq.trans rfl rfl
@[simp] theorem okc_pointer {x : Option Addr} : AV.okc (.sc (.pointer x)) = true := Eq.trans rfl rfl
@[simp] theorem cells_pointer {x : Option Addr} : AV.cells (.sc (.pointer x)) = [.sc (.pointer x)] := Eq.trans rfl rfl
@[simp] theorem okc_map {x : Option Nat} : AV.okc (.sc (.map x)) = true := Eq.trans rfl rfl
@[simp] theorem cells_map {x : Option Nat} : AV.cells (.sc (.map x)) = [.sc (.map x)] := Eq.trans rfl rfl
@[simp] theorem okc_mp {x : Nat} : AV.okc (.mp x) = true := Eq.trans rfl rfl
@[simp] theorem cells_mp {x : Nat} : AV.cells (.mp x) = [.mp x] := Eq.trans rfl rfl
@[simp] theorem okc_iface {t : TypeId} {x : AV} : AV.okc (.iface t x) = true := Eq.trans rfl rfl
@[simp] theorem cells_iface {t : TypeId} {x : AV} : AV.cells (.iface t x) = [.iface t x] := Eq.trans rfl rfl
@[simp] theorem okc_nilIface : AV.okc (.sc .nilIface) = true := Eq.trans rfl rfl
@[simp] theorem cells_nilIface : AV.cells (.sc .nilIface) = [.sc .nilIface] := Eq.trans rfl rfl
attribute [simp] Tryz.underlying1
@[simp] theorem tagg1 : tagg Tryz.prog 1 = some false := by kernel_rfl
@[simp] theorem tsize1 : tsize Tryz.prog 1 = some 1 := by kernel_rfl
@[simp] theorem tbytes1 : tbytes Tryz.prog 1 = some 8 := by kernel_rfl
@[simp] theorem tzero1 : tzero Tryz.prog 1 = some (.sc (.nilFunc)) := by kernel_rfl
attribute [simp] Tryz.underlying2
@[simp] theorem tagg2 : tagg Tryz.prog 2 = some false := by kernel_rfl
@[simp] theorem tsize2 : tsize Tryz.prog 2 = some 1 := by kernel_rfl
@[simp] theorem tbytes2 : tbytes Tryz.prog 2 = some 8 := by kernel_rfl
@[simp] theorem tzero2 : tzero Tryz.prog 2 = some (.sc (.int .i64 0)) := by kernel_rfl
attribute [simp] Tryz.underlying3
@[simp] theorem tagg3 : tagg Tryz.prog 3 = some false := by kernel_rfl
@[simp] theorem tsize3 : tsize Tryz.prog 3 = some 1 := by kernel_rfl
@[simp] theorem tbytes3 : tbytes Tryz.prog 3 = some 8 := by kernel_rfl
@[simp] theorem tzero3 : tzero Tryz.prog 3 = some (.sc (.int .i64 0)) := by kernel_rfl
attribute [simp] Tryz.underlying4
@[simp] theorem tagg4 : tagg Tryz.prog 4 = some false := by kernel_rfl
@[simp] theorem tsize4 : tsize Tryz.prog 4 = some 1 := by kernel_rfl
@[simp] theorem tbytes4 : tbytes Tryz.prog 4 = some 1 := by kernel_rfl
@[simp] theorem tzero4 : tzero Tryz.prog 4 = some (.sc (.bool false)) := by kernel_rfl
attribute [simp] Tryz.underlying5
@[simp] theorem tagg5 : tagg Tryz.prog 5 = some false := by kernel_rfl
@[simp] theorem tsize5 : tsize Tryz.prog 5 = some 1 := by kernel_rfl
@[simp] theorem tbytes5 : tbytes Tryz.prog 5 = some 1 := by kernel_rfl
@[simp] theorem tzero5 : tzero Tryz.prog 5 = some (.sc (.int .u8 0)) := by kernel_rfl
attribute [simp] Tryz.underlying6
@[simp] theorem tagg6 : tagg Tryz.prog 6 = some false := by kernel_rfl
@[simp] theorem tsize6 : tsize Tryz.prog 6 = some 1 := by kernel_rfl
@[simp] theorem tbytes6 : tbytes Tryz.prog 6 = some 1 := by kernel_rfl
@[simp] theorem tzero6 : tzero Tryz.prog 6 = some (.sc (.int .u8 0)) := by kernel_rfl
attribute [simp] Tryz.underlying7
@[simp] theorem tagg7 : tagg Tryz.prog 7 = some true := by kernel_rfl
@[simp] theorem tsize7 : tsize Tryz.prog 7 = some 4 := by kernel_rfl
@[simp] theorem tbytes7 : tbytes Tryz.prog 7 = some 24 := by kernel_rfl
@[simp] theorem tzero7 : tzero Tryz.prog 7 = some (.agg [.sc (.int .i64 0), .sc (.int .i64 0), .sc (.bool false), .sc (.int .u8 0)]) := by kernel_rfl
@[simp] theorem fieldAddr7_0 {id off : Nat} : afieldAddr Tryz.prog 7 (.ptr id off) 0 = some (.ptr id (off + 0)) := by simp [afieldAddr, tfield]
@[simp] theorem fieldAddr7_0c {x : AV} {off : Nat} : afieldAddr Tryz.prog 7 (.cptr x off) 0 = some (.cptr x (off + 0)) := by simp [afieldAddr, tfield]
@[simp] theorem fieldAddr7_1 {id off : Nat} : afieldAddr Tryz.prog 7 (.ptr id off) 1 = some (.ptr id (off + 1)) := by simp [afieldAddr, tfield]
@[simp] theorem fieldAddr7_1c {x : AV} {off : Nat} : afieldAddr Tryz.prog 7 (.cptr x off) 1 = some (.cptr x (off + 1)) := by simp [afieldAddr, tfield]
@[simp] theorem fieldAddr7_2 {id off : Nat} : afieldAddr Tryz.prog 7 (.ptr id off) 2 = some (.ptr id (off + 2)) := by simp [afieldAddr, tfield]
@[simp] theorem fieldAddr7_2c {x : AV} {off : Nat} : afieldAddr Tryz.prog 7 (.cptr x off) 2 = some (.cptr x (off + 2)) := by simp [afieldAddr, tfield]
@[simp] theorem fieldAddr7_3 {id off : Nat} : afieldAddr Tryz.prog 7 (.ptr id off) 3 = some (.ptr id (off + 3)) := by simp [afieldAddr, tfield]
@[simp] theorem fieldAddr7_3c {x : AV} {off : Nat} : afieldAddr Tryz.prog 7 (.cptr x off) 3 = some (.cptr x (off + 3)) := by simp [afieldAddr, tfield]
attribute [simp] Tryz.underlying8
@[simp] theorem tagg8 : tagg Tryz.prog 8 = some true := by kernel_rfl
@[simp] theorem tsize8 : tsize Tryz.prog 8 = some 4 := by kernel_rfl
@[simp] theorem tbytes8 : tbytes Tryz.prog 8 = some 24 := by kernel_rfl
@[simp] theorem tzero8 : tzero Tryz.prog 8 = some (.agg [.sc (.int .i64 0), .sc (.int .i64 0), .sc (.bool false), .sc (.int .u8 0)]) := by kernel_rfl
@[simp] theorem fieldAddr8_0 {id off : Nat} : afieldAddr Tryz.prog 8 (.ptr id off) 0 = some (.ptr id (off + 0)) := by simp [afieldAddr, tfield]
@[simp] theorem fieldAddr8_0c {x : AV} {off : Nat} : afieldAddr Tryz.prog 8 (.cptr x off) 0 = some (.cptr x (off + 0)) := by simp [afieldAddr, tfield]
@[simp] theorem fieldAddr8_1 {id off : Nat} : afieldAddr Tryz.prog 8 (.ptr id off) 1 = some (.ptr id (off + 1)) := by simp [afieldAddr, tfield]
@[simp] theorem fieldAddr8_1c {x : AV} {off : Nat} : afieldAddr Tryz.prog 8 (.cptr x off) 1 = some (.cptr x (off + 1)) := by simp [afieldAddr, tfield]
@[simp] theorem fieldAddr8_2 {id off : Nat} : afieldAddr Tryz.prog 8 (.ptr id off) 2 = some (.ptr id (off + 2)) := by simp [afieldAddr, tfield]
@[simp] theorem fieldAddr8_2c {x : AV} {off : Nat} : afieldAddr Tryz.prog 8 (.cptr x off) 2 = some (.cptr x (off + 2)) := by simp [afieldAddr, tfield]
@[simp] theorem fieldAddr8_3 {id off : Nat} : afieldAddr Tryz.prog 8 (.ptr id off) 3 = some (.ptr id (off + 3)) := by simp [afieldAddr, tfield]
@[simp] theorem fieldAddr8_3c {x : AV} {off : Nat} : afieldAddr Tryz.prog 8 (.cptr x off) 3 = some (.cptr x (off + 3)) := by simp [afieldAddr, tfield]
attribute [simp] Tryz.underlying9
@[simp] theorem tagg9 : tagg Tryz.prog 9 = some false := by kernel_rfl
@[simp] theorem tsize9 : tsize Tryz.prog 9 = some 1 := by kernel_rfl
@[simp] theorem tbytes9 : tbytes Tryz.prog 9 = some 16 := by kernel_rfl
@[simp] theorem tzero9 : tzero Tryz.prog 9 = some (.sc (.string ⟨⟨[]⟩⟩)) := by kernel_rfl
attribute [simp] Tryz.underlying10
@[simp] theorem tagg10 : tagg Tryz.prog 10 = some false := by kernel_rfl
@[simp] theorem tsize10 : tsize Tryz.prog 10 = some 1 := by kernel_rfl
@[simp] theorem tbytes10 : tbytes Tryz.prog 10 = some 16 := by kernel_rfl
@[simp] theorem tzero10 : tzero Tryz.prog 10 = some (.sc (.string ⟨⟨[]⟩⟩)) := by kernel_rfl
attribute [simp] Tryz.underlying11
@[simp] theorem tagg11 : tagg Tryz.prog 11 = some false := by kernel_rfl
@[simp] theorem tsize11 : tsize Tryz.prog 11 = some 1 := by kernel_rfl
@[simp] theorem tbytes11 : tbytes Tryz.prog 11 = some 16 := by kernel_rfl
@[simp] theorem tzero11 : tzero Tryz.prog 11 = some (.sc (.string ⟨⟨[]⟩⟩)) := by kernel_rfl
attribute [simp] Tryz.underlying12
@[simp] theorem tagg12 : tagg Tryz.prog 12 = some false := by kernel_rfl
@[simp] theorem tsize12 : tsize Tryz.prog 12 = some 1 := by kernel_rfl
@[simp] theorem tbytes12 : tbytes Tryz.prog 12 = some 8 := by kernel_rfl
@[simp] theorem tzero12 : tzero Tryz.prog 12 = some (.sc (.int .u64 0)) := by kernel_rfl
attribute [simp] Tryz.underlying13
@[simp] theorem tagg13 : tagg Tryz.prog 13 = some true := by kernel_rfl
@[simp] theorem tsize13 : tsize Tryz.prog 13 = some 2 := by kernel_rfl
@[simp] theorem tbytes13 : tbytes Tryz.prog 13 = some 24 := by kernel_rfl
@[simp] theorem tzero13 : tzero Tryz.prog 13 = some (.agg [.sc (.string ⟨⟨[]⟩⟩), .sc (.int .u64 0)]) := by kernel_rfl
@[simp] theorem fieldAddr13_0 {id off : Nat} : afieldAddr Tryz.prog 13 (.ptr id off) 0 = some (.ptr id (off + 0)) := by simp [afieldAddr, tfield]
@[simp] theorem fieldAddr13_0c {x : AV} {off : Nat} : afieldAddr Tryz.prog 13 (.cptr x off) 0 = some (.cptr x (off + 0)) := by simp [afieldAddr, tfield]
@[simp] theorem fieldAddr13_1 {id off : Nat} : afieldAddr Tryz.prog 13 (.ptr id off) 1 = some (.ptr id (off + 1)) := by simp [afieldAddr, tfield]
@[simp] theorem fieldAddr13_1c {x : AV} {off : Nat} : afieldAddr Tryz.prog 13 (.cptr x off) 1 = some (.cptr x (off + 1)) := by simp [afieldAddr, tfield]
attribute [simp] Tryz.underlying14
@[simp] theorem tagg14 : tagg Tryz.prog 14 = some true := by kernel_rfl
@[simp] theorem tsize14 : tsize Tryz.prog 14 = some 2 := by kernel_rfl
@[simp] theorem tbytes14 : tbytes Tryz.prog 14 = some 24 := by kernel_rfl
@[simp] theorem tzero14 : tzero Tryz.prog 14 = some (.agg [.sc (.string ⟨⟨[]⟩⟩), .sc (.int .u64 0)]) := by kernel_rfl
@[simp] theorem fieldAddr14_0 {id off : Nat} : afieldAddr Tryz.prog 14 (.ptr id off) 0 = some (.ptr id (off + 0)) := by simp [afieldAddr, tfield]
@[simp] theorem fieldAddr14_0c {x : AV} {off : Nat} : afieldAddr Tryz.prog 14 (.cptr x off) 0 = some (.cptr x (off + 0)) := by simp [afieldAddr, tfield]
@[simp] theorem fieldAddr14_1 {id off : Nat} : afieldAddr Tryz.prog 14 (.ptr id off) 1 = some (.ptr id (off + 1)) := by simp [afieldAddr, tfield]
@[simp] theorem fieldAddr14_1c {x : AV} {off : Nat} : afieldAddr Tryz.prog 14 (.cptr x off) 1 = some (.cptr x (off + 1)) := by simp [afieldAddr, tfield]
attribute [simp] Tryz.underlying15
@[simp] theorem tagg15 : tagg Tryz.prog 15 = some false := by kernel_rfl
@[simp] theorem tsize15 : tsize Tryz.prog 15 = some 1 := by kernel_rfl
@[simp] theorem tbytes15 : tbytes Tryz.prog 15 = some 8 := by kernel_rfl
@[simp] theorem tzero15 : tzero Tryz.prog 15 = some (.sc (.pointer Option.none)) := by kernel_rfl
attribute [simp] Tryz.underlying16
@[simp] theorem tagg16 : tagg Tryz.prog 16 = some false := by kernel_rfl
@[simp] theorem tsize16 : tsize Tryz.prog 16 = some 1 := by kernel_rfl
@[simp] theorem tbytes16 : tbytes Tryz.prog 16 = some 8 := by kernel_rfl
@[simp] theorem tzero16 : tzero Tryz.prog 16 = some (.sc (.pointer Option.none)) := by kernel_rfl
attribute [simp] Tryz.underlying17
@[simp] theorem tagg17 : tagg Tryz.prog 17 = some false := by kernel_rfl
@[simp] theorem tsize17 : tsize Tryz.prog 17 = some 1 := by kernel_rfl
@[simp] theorem tbytes17 : tbytes Tryz.prog 17 = some 8 := by kernel_rfl
@[simp] theorem tzero17 : tzero Tryz.prog 17 = some (.sc (.pointer Option.none)) := by kernel_rfl
attribute [simp] Tryz.underlying18
@[simp] theorem tagg18 : tagg Tryz.prog 18 = some true := by kernel_rfl
@[simp] theorem tsize18 : tsize Tryz.prog 18 = some 1 := by kernel_rfl
@[simp] theorem tbytes18 : tbytes Tryz.prog 18 = some 8 := by kernel_rfl
@[simp] theorem tzero18 : tzero Tryz.prog 18 = some (.agg [.sc (.pointer Option.none)]) := by kernel_rfl
@[simp] theorem fieldAddr18_0 {id off : Nat} : afieldAddr Tryz.prog 18 (.ptr id off) 0 = some (.ptr id (off + 0)) := by simp [afieldAddr, tfield]
@[simp] theorem fieldAddr18_0c {x : AV} {off : Nat} : afieldAddr Tryz.prog 18 (.cptr x off) 0 = some (.cptr x (off + 0)) := by simp [afieldAddr, tfield]
attribute [simp] Tryz.underlying19
@[simp] theorem tagg19 : tagg Tryz.prog 19 = some true := by kernel_rfl
@[simp] theorem tsize19 : tsize Tryz.prog 19 = some 1 := by kernel_rfl
@[simp] theorem tbytes19 : tbytes Tryz.prog 19 = some 8 := by kernel_rfl
@[simp] theorem tzero19 : tzero Tryz.prog 19 = some (.agg [.sc (.pointer Option.none)]) := by kernel_rfl
@[simp] theorem fieldAddr19_0 {id off : Nat} : afieldAddr Tryz.prog 19 (.ptr id off) 0 = some (.ptr id (off + 0)) := by simp [afieldAddr, tfield]
@[simp] theorem fieldAddr19_0c {x : AV} {off : Nat} : afieldAddr Tryz.prog 19 (.cptr x off) 0 = some (.cptr x (off + 0)) := by simp [afieldAddr, tfield]
attribute [simp] Tryz.underlying20
@[simp] theorem tagg20 : tagg Tryz.prog 20 = some false := by kernel_rfl
@[simp] theorem tsize20 : tsize Tryz.prog 20 = some 1 := by kernel_rfl
@[simp] theorem tbytes20 : tbytes Tryz.prog 20 = some 16 := by kernel_rfl
@[simp] theorem tzero20 : tzero Tryz.prog 20 = some (.sc (.nilIface)) := by kernel_rfl
attribute [simp] Tryz.underlying21
@[simp] theorem tagg21 : tagg Tryz.prog 21 = some false := by kernel_rfl
@[simp] theorem tsize21 : tsize Tryz.prog 21 = some 1 := by kernel_rfl
@[simp] theorem tbytes21 : tbytes Tryz.prog 21 = some 4 := by kernel_rfl
@[simp] theorem tzero21 : tzero Tryz.prog 21 = some (.sc (.int .i32 0)) := by kernel_rfl
attribute [simp] Tryz.underlying22
@[simp] theorem tagg22 : tagg Tryz.prog 22 = some false := by kernel_rfl
@[simp] theorem tsize22 : tsize Tryz.prog 22 = some 1 := by kernel_rfl
@[simp] theorem tbytes22 : tbytes Tryz.prog 22 = some 24 := by kernel_rfl
@[simp] theorem tzero22 : tzero Tryz.prog 22 = some (.emp 0) := by kernel_rfl
@[simp] theorem telem22 : telem Tryz.prog 22 = some 3 := by kernel_rfl
@[simp] theorem nofz22 : nofz Tryz.prog 22 = false := by kernel_rfl
attribute [simp] Tryz.underlying23
@[simp] theorem tagg23 : tagg Tryz.prog 23 = some false := by kernel_rfl
@[simp] theorem tsize23 : tsize Tryz.prog 23 = some 1 := by kernel_rfl
@[simp] theorem tbytes23 : tbytes Tryz.prog 23 = some 24 := by kernel_rfl
@[simp] theorem tzero23 : tzero Tryz.prog 23 = some (.emp 0) := by kernel_rfl
@[simp] theorem telem23 : telem Tryz.prog 23 = some 25 := by kernel_rfl
@[simp] theorem nofz23 : nofz Tryz.prog 23 = false := by kernel_rfl
attribute [simp] Tryz.underlying24
@[simp] theorem tagg24 : tagg Tryz.prog 24 = some true := by kernel_rfl
@[simp] theorem tsize24 : tsize Tryz.prog 24 = some 6 := by kernel_rfl
@[simp] theorem tbytes24 : tbytes Tryz.prog 24 = some 104 := by kernel_rfl
@[simp] theorem tzero24 : tzero Tryz.prog 24 = some (.agg [.sc (.int .i64 0), .sc (.int .i64 0), .sc (.string ⟨⟨[]⟩⟩), .emp 0, .emp 0, .emp 0]) := by kernel_rfl
@[simp] theorem fieldAddr24_0 {id off : Nat} : afieldAddr Tryz.prog 24 (.ptr id off) 0 = some (.ptr id (off + 0)) := by simp [afieldAddr, tfield]
@[simp] theorem fieldAddr24_0c {x : AV} {off : Nat} : afieldAddr Tryz.prog 24 (.cptr x off) 0 = some (.cptr x (off + 0)) := by simp [afieldAddr, tfield]
@[simp] theorem fieldAddr24_1 {id off : Nat} : afieldAddr Tryz.prog 24 (.ptr id off) 1 = some (.ptr id (off + 1)) := by simp [afieldAddr, tfield]
@[simp] theorem fieldAddr24_1c {x : AV} {off : Nat} : afieldAddr Tryz.prog 24 (.cptr x off) 1 = some (.cptr x (off + 1)) := by simp [afieldAddr, tfield]
@[simp] theorem fieldAddr24_2 {id off : Nat} : afieldAddr Tryz.prog 24 (.ptr id off) 2 = some (.ptr id (off + 2)) := by simp [afieldAddr, tfield]
@[simp] theorem fieldAddr24_2c {x : AV} {off : Nat} : afieldAddr Tryz.prog 24 (.cptr x off) 2 = some (.cptr x (off + 2)) := by simp [afieldAddr, tfield]
@[simp] theorem fieldAddr24_3 {id off : Nat} : afieldAddr Tryz.prog 24 (.ptr id off) 3 = some (.ptr id (off + 3)) := by simp [afieldAddr, tfield]
@[simp] theorem fieldAddr24_3c {x : AV} {off : Nat} : afieldAddr Tryz.prog 24 (.cptr x off) 3 = some (.cptr x (off + 3)) := by simp [afieldAddr, tfield]
@[simp] theorem fieldAddr24_4 {id off : Nat} : afieldAddr Tryz.prog 24 (.ptr id off) 4 = some (.ptr id (off + 4)) := by simp [afieldAddr, tfield]
@[simp] theorem fieldAddr24_4c {x : AV} {off : Nat} : afieldAddr Tryz.prog 24 (.cptr x off) 4 = some (.cptr x (off + 4)) := by simp [afieldAddr, tfield]
@[simp] theorem fieldAddr24_5 {id off : Nat} : afieldAddr Tryz.prog 24 (.ptr id off) 5 = some (.ptr id (off + 5)) := by simp [afieldAddr, tfield]
@[simp] theorem fieldAddr24_5c {x : AV} {off : Nat} : afieldAddr Tryz.prog 24 (.cptr x off) 5 = some (.cptr x (off + 5)) := by simp [afieldAddr, tfield]
attribute [simp] Tryz.underlying25
@[simp] theorem tagg25 : tagg Tryz.prog 25 = some true := by kernel_rfl
@[simp] theorem tsize25 : tsize Tryz.prog 25 = some 6 := by kernel_rfl
@[simp] theorem tbytes25 : tbytes Tryz.prog 25 = some 104 := by kernel_rfl
@[simp] theorem tzero25 : tzero Tryz.prog 25 = some (.agg zeroCells) := by kernel_rfl
@[simp] theorem fieldAddr25_0 {id off : Nat} : afieldAddr Tryz.prog 25 (.ptr id off) 0 = some (.ptr id (off + 0)) := by simp [afieldAddr, tfield]
@[simp] theorem fieldAddr25_0c {x : AV} {off : Nat} : afieldAddr Tryz.prog 25 (.cptr x off) 0 = some (.cptr x (off + 0)) := by simp [afieldAddr, tfield]
@[simp] theorem fieldAddr25_1 {id off : Nat} : afieldAddr Tryz.prog 25 (.ptr id off) 1 = some (.ptr id (off + 1)) := by simp [afieldAddr, tfield]
@[simp] theorem fieldAddr25_1c {x : AV} {off : Nat} : afieldAddr Tryz.prog 25 (.cptr x off) 1 = some (.cptr x (off + 1)) := by simp [afieldAddr, tfield]
@[simp] theorem fieldAddr25_2 {id off : Nat} : afieldAddr Tryz.prog 25 (.ptr id off) 2 = some (.ptr id (off + 2)) := by simp [afieldAddr, tfield]
@[simp] theorem fieldAddr25_2c {x : AV} {off : Nat} : afieldAddr Tryz.prog 25 (.cptr x off) 2 = some (.cptr x (off + 2)) := by simp [afieldAddr, tfield]
@[simp] theorem fieldAddr25_3 {id off : Nat} : afieldAddr Tryz.prog 25 (.ptr id off) 3 = some (.ptr id (off + 3)) := by simp [afieldAddr, tfield]
@[simp] theorem fieldAddr25_3c {x : AV} {off : Nat} : afieldAddr Tryz.prog 25 (.cptr x off) 3 = some (.cptr x (off + 3)) := by simp [afieldAddr, tfield]
@[simp] theorem fieldAddr25_4 {id off : Nat} : afieldAddr Tryz.prog 25 (.ptr id off) 4 = some (.ptr id (off + 4)) := by simp [afieldAddr, tfield]
@[simp] theorem fieldAddr25_4c {x : AV} {off : Nat} : afieldAddr Tryz.prog 25 (.cptr x off) 4 = some (.cptr x (off + 4)) := by simp [afieldAddr, tfield]
@[simp] theorem fieldAddr25_5 {id off : Nat} : afieldAddr Tryz.prog 25 (.ptr id off) 5 = some (.ptr id (off + 5)) := by simp [afieldAddr, tfield]
@[simp] theorem fieldAddr25_5c {x : AV} {off : Nat} : afieldAddr Tryz.prog 25 (.cptr x off) 5 = some (.cptr x (off + 5)) := by simp [afieldAddr, tfield]
attribute [simp] Tryz.underlying26
@[simp] theorem tagg26 : tagg Tryz.prog 26 = some false := by kernel_rfl
@[simp] theorem tsize26 : tsize Tryz.prog 26 = some 1 := by kernel_rfl
@[simp] theorem tbytes26 : tbytes Tryz.prog 26 = some 24 := by kernel_rfl
@[simp] theorem tzero26 : tzero Tryz.prog 26 = some (.emp 0) := by kernel_rfl
@[simp] theorem telem26 : telem Tryz.prog 26 = some 44 := by kernel_rfl
@[simp] theorem nofz26 : nofz Tryz.prog 26 = true := by kernel_rfl
attribute [simp] Tryz.underlying27
@[simp] theorem tagg27 : tagg Tryz.prog 27 = some false := by kernel_rfl
@[simp] theorem tsize27 : tsize Tryz.prog 27 = some 1 := by kernel_rfl
@[simp] theorem tbytes27 : tbytes Tryz.prog 27 = some 8 := by kernel_rfl
@[simp] theorem tzero27 : tzero Tryz.prog 27 = some (.sc (.nilFunc)) := by kernel_rfl
attribute [simp] Tryz.underlying28
@[simp] theorem tagg28 : tagg Tryz.prog 28 = some false := by kernel_rfl
@[simp] theorem tsize28 : tsize Tryz.prog 28 = some 1 := by kernel_rfl
@[simp] theorem tbytes28 : tbytes Tryz.prog 28 = some 8 := by kernel_rfl
@[simp] theorem tzero28 : tzero Tryz.prog 28 = some (.sc (.nilFunc)) := by kernel_rfl
attribute [simp] Tryz.underlying29
@[simp] theorem tagg29 : tagg Tryz.prog 29 = some false := by kernel_rfl
@[simp] theorem tsize29 : tsize Tryz.prog 29 = some 1 := by kernel_rfl
@[simp] theorem tbytes29 : tbytes Tryz.prog 29 = some 8 := by kernel_rfl
@[simp] theorem tzero29 : tzero Tryz.prog 29 = some (.sc (.nilFunc)) := by kernel_rfl
attribute [simp] Tryz.underlying30
@[simp] theorem tagg30 : tagg Tryz.prog 30 = some false := by kernel_rfl
@[simp] theorem tsize30 : tsize Tryz.prog 30 = some 1 := by kernel_rfl
@[simp] theorem tbytes30 : tbytes Tryz.prog 30 = some 8 := by kernel_rfl
@[simp] theorem tzero30 : tzero Tryz.prog 30 = some (.sc (.int .i64 0)) := by kernel_rfl
attribute [simp] Tryz.underlying32
@[simp] theorem tagg32 : tagg Tryz.prog 32 = some false := by kernel_rfl
@[simp] theorem tsize32 : tsize Tryz.prog 32 = some 1 := by kernel_rfl
@[simp] theorem tbytes32 : tbytes Tryz.prog 32 = some 8 := by kernel_rfl
@[simp] theorem tzero32 : tzero Tryz.prog 32 = some (.sc (.nilFunc)) := by kernel_rfl
attribute [simp] Tryz.underlying33
@[simp] theorem tagg33 : tagg Tryz.prog 33 = some false := by kernel_rfl
@[simp] theorem tsize33 : tsize Tryz.prog 33 = some 1 := by kernel_rfl
@[simp] theorem tbytes33 : tbytes Tryz.prog 33 = some 8 := by kernel_rfl
@[simp] theorem tzero33 : tzero Tryz.prog 33 = some (.sc (.nilFunc)) := by kernel_rfl
attribute [simp] Tryz.underlying34
@[simp] theorem tagg34 : tagg Tryz.prog 34 = some false := by kernel_rfl
@[simp] theorem tsize34 : tsize Tryz.prog 34 = some 1 := by kernel_rfl
@[simp] theorem tbytes34 : tbytes Tryz.prog 34 = some 8 := by kernel_rfl
@[simp] theorem tzero34 : tzero Tryz.prog 34 = some (.sc (.nilFunc)) := by kernel_rfl
attribute [simp] Tryz.underlying35
@[simp] theorem tagg35 : tagg Tryz.prog 35 = some false := by kernel_rfl
@[simp] theorem tsize35 : tsize Tryz.prog 35 = some 1 := by kernel_rfl
@[simp] theorem tbytes35 : tbytes Tryz.prog 35 = some 8 := by kernel_rfl
@[simp] theorem tzero35 : tzero Tryz.prog 35 = some (.sc (.nilFunc)) := by kernel_rfl
attribute [simp] Tryz.underlying36
@[simp] theorem tagg36 : tagg Tryz.prog 36 = some false := by kernel_rfl
@[simp] theorem tsize36 : tsize Tryz.prog 36 = some 1 := by kernel_rfl
@[simp] theorem tbytes36 : tbytes Tryz.prog 36 = some 8 := by kernel_rfl
@[simp] theorem tzero36 : tzero Tryz.prog 36 = some (.sc (.nilFunc)) := by kernel_rfl
attribute [simp] Tryz.underlying37
@[simp] theorem tagg37 : tagg Tryz.prog 37 = some false := by kernel_rfl
@[simp] theorem tsize37 : tsize Tryz.prog 37 = some 1 := by kernel_rfl
@[simp] theorem tbytes37 : tbytes Tryz.prog 37 = some 8 := by kernel_rfl
@[simp] theorem tzero37 : tzero Tryz.prog 37 = some (.sc (.nilFunc)) := by kernel_rfl
attribute [simp] Tryz.underlying38
@[simp] theorem tagg38 : tagg Tryz.prog 38 = some true := by kernel_rfl
@[simp] theorem tsize38 : tsize Tryz.prog 38 = some 12 := by kernel_rfl
@[simp] theorem tbytes38 : tbytes Tryz.prog 38 = some 208 := by kernel_rfl
@[simp] theorem tzero38 : tzero Tryz.prog 38 = some (.agg [.sc (.int .i64 0), .sc (.int .i64 0), .sc (.string ⟨⟨[]⟩⟩), .emp 0, .emp 0, .emp 0, .sc (.int .i64 0), .sc (.int .i64 0), .sc (.string ⟨⟨[]⟩⟩), .emp 0, .emp 0, .emp 0]) := by kernel_rfl
@[simp] theorem fieldAddr38_0 {id off : Nat} : afieldAddr Tryz.prog 38 (.ptr id off) 0 = some (.ptr id (off + 0)) := by simp [afieldAddr, tfield]
@[simp] theorem fieldAddr38_0c {x : AV} {off : Nat} : afieldAddr Tryz.prog 38 (.cptr x off) 0 = some (.cptr x (off + 0)) := by simp [afieldAddr, tfield]
@[simp] theorem fieldAddr38_1 {id off : Nat} : afieldAddr Tryz.prog 38 (.ptr id off) 1 = some (.ptr id (off + 6)) := by simp [afieldAddr, tfield]
@[simp] theorem fieldAddr38_1c {x : AV} {off : Nat} : afieldAddr Tryz.prog 38 (.cptr x off) 1 = some (.cptr x (off + 6)) := by simp [afieldAddr, tfield]
attribute [simp] Tryz.underlying39
@[simp] theorem tagg39 : tagg Tryz.prog 39 = some true := by kernel_rfl
@[simp] theorem tsize39 : tsize Tryz.prog 39 = some 12 := by kernel_rfl
@[simp] theorem tbytes39 : tbytes Tryz.prog 39 = some 208 := by kernel_rfl
@[simp] theorem tzero39 : tzero Tryz.prog 39 = some (.agg [.sc (.int .i64 0), .sc (.int .i64 0), .sc (.string ⟨⟨[]⟩⟩), .emp 0, .emp 0, .emp 0, .sc (.int .i64 0), .sc (.int .i64 0), .sc (.string ⟨⟨[]⟩⟩), .emp 0, .emp 0, .emp 0]) := by kernel_rfl
@[simp] theorem fieldAddr39_0 {id off : Nat} : afieldAddr Tryz.prog 39 (.ptr id off) 0 = some (.ptr id (off + 0)) := by simp [afieldAddr, tfield]
@[simp] theorem fieldAddr39_0c {x : AV} {off : Nat} : afieldAddr Tryz.prog 39 (.cptr x off) 0 = some (.cptr x (off + 0)) := by simp [afieldAddr, tfield]
@[simp] theorem fieldAddr39_1 {id off : Nat} : afieldAddr Tryz.prog 39 (.ptr id off) 1 = some (.ptr id (off + 6)) := by simp [afieldAddr, tfield]
@[simp] theorem fieldAddr39_1c {x : AV} {off : Nat} : afieldAddr Tryz.prog 39 (.cptr x off) 1 = some (.cptr x (off + 6)) := by simp [afieldAddr, tfield]
attribute [simp] Tryz.underlying41
@[simp] theorem tagg41 : tagg Tryz.prog 41 = some false := by kernel_rfl
@[simp] theorem tsize41 : tsize Tryz.prog 41 = some 1 := by kernel_rfl
@[simp] theorem tbytes41 : tbytes Tryz.prog 41 = some 8 := by kernel_rfl
@[simp] theorem tzero41 : tzero Tryz.prog 41 = some (.sc (.nilFunc)) := by kernel_rfl
attribute [simp] Tryz.underlying42
@[simp] theorem tagg42 : tagg Tryz.prog 42 = some false := by kernel_rfl
@[simp] theorem tsize42 : tsize Tryz.prog 42 = some 1 := by kernel_rfl
@[simp] theorem tbytes42 : tbytes Tryz.prog 42 = some 8 := by kernel_rfl
@[simp] theorem tzero42 : tzero Tryz.prog 42 = some (.sc (.nilFunc)) := by kernel_rfl
attribute [simp] Tryz.underlying43
@[simp] theorem tagg43 : tagg Tryz.prog 43 = some true := by kernel_rfl
@[simp] theorem tsize43 : tsize Tryz.prog 43 = some 14 := by kernel_rfl
@[simp] theorem tbytes43 : tbytes Tryz.prog 43 = some 240 := by kernel_rfl
@[simp] theorem tzero43 : tzero Tryz.prog 43 = some (.agg [.sc (.int .i64 0), .sc (.int .i64 0), .sc (.string ⟨⟨[]⟩⟩), .emp 0, .emp 0, .emp 0, .sc (.int .i64 0), .sc (.int .i64 0), .sc (.int .i64 0), .sc (.string ⟨⟨[]⟩⟩), .emp 0, .emp 0, .emp 0, .emp 0]) := by kernel_rfl
@[simp] theorem fieldAddr43_0 {id off : Nat} : afieldAddr Tryz.prog 43 (.ptr id off) 0 = some (.ptr id (off + 0)) := by simp [afieldAddr, tfield]
@[simp] theorem fieldAddr43_0c {x : AV} {off : Nat} : afieldAddr Tryz.prog 43 (.cptr x off) 0 = some (.cptr x (off + 0)) := by simp [afieldAddr, tfield]
@[simp] theorem fieldAddr43_1 {id off : Nat} : afieldAddr Tryz.prog 43 (.ptr id off) 1 = some (.ptr id (off + 6)) := by simp [afieldAddr, tfield]
@[simp] theorem fieldAddr43_1c {x : AV} {off : Nat} : afieldAddr Tryz.prog 43 (.cptr x off) 1 = some (.cptr x (off + 6)) := by simp [afieldAddr, tfield]
@[simp] theorem fieldAddr43_2 {id off : Nat} : afieldAddr Tryz.prog 43 (.ptr id off) 2 = some (.ptr id (off + 7)) := by simp [afieldAddr, tfield]
@[simp] theorem fieldAddr43_2c {x : AV} {off : Nat} : afieldAddr Tryz.prog 43 (.cptr x off) 2 = some (.cptr x (off + 7)) := by simp [afieldAddr, tfield]
@[simp] theorem fieldAddr43_3 {id off : Nat} : afieldAddr Tryz.prog 43 (.ptr id off) 3 = some (.ptr id (off + 13)) := by simp [afieldAddr, tfield]
@[simp] theorem fieldAddr43_3c {x : AV} {off : Nat} : afieldAddr Tryz.prog 43 (.cptr x off) 3 = some (.cptr x (off + 13)) := by simp [afieldAddr, tfield]
attribute [simp] Tryz.underlying44
@[simp] theorem tagg44 : tagg Tryz.prog 44 = some true := by kernel_rfl
@[simp] theorem tsize44 : tsize Tryz.prog 44 = some 14 := by kernel_rfl
@[simp] theorem tbytes44 : tbytes Tryz.prog 44 = some 240 := by kernel_rfl
@[simp] theorem tzero44 : tzero Tryz.prog 44 = some (.agg [.sc (.int .i64 0), .sc (.int .i64 0), .sc (.string ⟨⟨[]⟩⟩), .emp 0, .emp 0, .emp 0, .sc (.int .i64 0), .sc (.int .i64 0), .sc (.int .i64 0), .sc (.string ⟨⟨[]⟩⟩), .emp 0, .emp 0, .emp 0, .emp 0]) := by kernel_rfl
@[simp] theorem fieldAddr44_0 {id off : Nat} : afieldAddr Tryz.prog 44 (.ptr id off) 0 = some (.ptr id (off + 0)) := by simp [afieldAddr, tfield]
@[simp] theorem fieldAddr44_0c {x : AV} {off : Nat} : afieldAddr Tryz.prog 44 (.cptr x off) 0 = some (.cptr x (off + 0)) := by simp [afieldAddr, tfield]
@[simp] theorem fieldAddr44_1 {id off : Nat} : afieldAddr Tryz.prog 44 (.ptr id off) 1 = some (.ptr id (off + 6)) := by simp [afieldAddr, tfield]
@[simp] theorem fieldAddr44_1c {x : AV} {off : Nat} : afieldAddr Tryz.prog 44 (.cptr x off) 1 = some (.cptr x (off + 6)) := by simp [afieldAddr, tfield]
@[simp] theorem fieldAddr44_2 {id off : Nat} : afieldAddr Tryz.prog 44 (.ptr id off) 2 = some (.ptr id (off + 7)) := by simp [afieldAddr, tfield]
@[simp] theorem fieldAddr44_2c {x : AV} {off : Nat} : afieldAddr Tryz.prog 44 (.cptr x off) 2 = some (.cptr x (off + 7)) := by simp [afieldAddr, tfield]
@[simp] theorem fieldAddr44_3 {id off : Nat} : afieldAddr Tryz.prog 44 (.ptr id off) 3 = some (.ptr id (off + 13)) := by simp [afieldAddr, tfield]
@[simp] theorem fieldAddr44_3c {x : AV} {off : Nat} : afieldAddr Tryz.prog 44 (.cptr x off) 3 = some (.cptr x (off + 13)) := by simp [afieldAddr, tfield]
attribute [simp] Tryz.underlying45
@[simp] theorem tagg45 : tagg Tryz.prog 45 = some false := by kernel_rfl
@[simp] theorem tsize45 : tsize Tryz.prog 45 = some 1 := by kernel_rfl
@[simp] theorem tbytes45 : tbytes Tryz.prog 45 = some 8 := by kernel_rfl
@[simp] theorem tzero45 : tzero Tryz.prog 45 = some (.sc (.nilFunc)) := by kernel_rfl
attribute [simp] Tryz.underlying46
@[simp] theorem tagg46 : tagg Tryz.prog 46 = some false := by kernel_rfl
@[simp] theorem tsize46 : tsize Tryz.prog 46 = some 1 := by kernel_rfl
@[simp] theorem tbytes46 : tbytes Tryz.prog 46 = some 8 := by kernel_rfl
@[simp] theorem tzero46 : tzero Tryz.prog 46 = some (.sc (.pointer Option.none)) := by kernel_rfl
attribute [simp] Tryz.underlying47
@[simp] theorem tagg47 : tagg Tryz.prog 47 = some false := by kernel_rfl
@[simp] theorem tsize47 : tsize Tryz.prog 47 = some 1 := by kernel_rfl
@[simp] theorem tbytes47 : tbytes Tryz.prog 47 = some 8 := by kernel_rfl
@[simp] theorem tzero47 : tzero Tryz.prog 47 = some (.sc (.nilFunc)) := by kernel_rfl
attribute [simp] Tryz.underlying48
@[simp] theorem tagg48 : tagg Tryz.prog 48 = some false := by kernel_rfl
@[simp] theorem tsize48 : tsize Tryz.prog 48 = some 1 := by kernel_rfl
@[simp] theorem tbytes48 : tbytes Tryz.prog 48 = some 8 := by kernel_rfl
@[simp] theorem tzero48 : tzero Tryz.prog 48 = some (.sc (.nilFunc)) := by kernel_rfl
attribute [simp] Tryz.underlying49
@[simp] theorem tagg49 : tagg Tryz.prog 49 = some false := by kernel_rfl
@[simp] theorem tsize49 : tsize Tryz.prog 49 = some 1 := by kernel_rfl
@[simp] theorem tbytes49 : tbytes Tryz.prog 49 = some 8 := by kernel_rfl
@[simp] theorem tzero49 : tzero Tryz.prog 49 = some (.sc (.nilFunc)) := by kernel_rfl
attribute [simp] Tryz.underlying50
@[simp] theorem tagg50 : tagg Tryz.prog 50 = some false := by kernel_rfl
@[simp] theorem tsize50 : tsize Tryz.prog 50 = some 1 := by kernel_rfl
@[simp] theorem tbytes50 : tbytes Tryz.prog 50 = some 8 := by kernel_rfl
@[simp] theorem tzero50 : tzero Tryz.prog 50 = some (.sc (.pointer Option.none)) := by kernel_rfl
attribute [simp] Tryz.underlying51
@[simp] theorem tagg51 : tagg Tryz.prog 51 = some true := by kernel_rfl
@[simp] theorem tsize51 : tsize Tryz.prog 51 = some 3 := by kernel_rfl
@[simp] theorem tbytes51 : tbytes Tryz.prog 51 = some 24 := by kernel_rfl
@[simp] theorem tzero51 : tzero Tryz.prog 51 = some (.agg [.sc (.int .i64 0), .sc (.int .i64 0), .sc (.int .i64 0)]) := by kernel_rfl
@[simp] theorem fieldAddr51_0 {id off : Nat} : afieldAddr Tryz.prog 51 (.ptr id off) 0 = some (.ptr id (off + 0)) := by simp [afieldAddr, tfield]
@[simp] theorem fieldAddr51_0c {x : AV} {off : Nat} : afieldAddr Tryz.prog 51 (.cptr x off) 0 = some (.cptr x (off + 0)) := by simp [afieldAddr, tfield]
@[simp] theorem fieldAddr51_1 {id off : Nat} : afieldAddr Tryz.prog 51 (.ptr id off) 1 = some (.ptr id (off + 1)) := by simp [afieldAddr, tfield]
@[simp] theorem fieldAddr51_1c {x : AV} {off : Nat} : afieldAddr Tryz.prog 51 (.cptr x off) 1 = some (.cptr x (off + 1)) := by simp [afieldAddr, tfield]
@[simp] theorem fieldAddr51_2 {id off : Nat} : afieldAddr Tryz.prog 51 (.ptr id off) 2 = some (.ptr id (off + 2)) := by simp [afieldAddr, tfield]
@[simp] theorem fieldAddr51_2c {x : AV} {off : Nat} : afieldAddr Tryz.prog 51 (.cptr x off) 2 = some (.cptr x (off + 2)) := by simp [afieldAddr, tfield]
attribute [simp] Tryz.underlying52
@[simp] theorem tagg52 : tagg Tryz.prog 52 = some true := by kernel_rfl
@[simp] theorem tsize52 : tsize Tryz.prog 52 = some 3 := by kernel_rfl
@[simp] theorem tbytes52 : tbytes Tryz.prog 52 = some 24 := by kernel_rfl
@[simp] theorem tzero52 : tzero Tryz.prog 52 = some (.agg [.sc (.int .i64 0), .sc (.int .i64 0), .sc (.int .i64 0)]) := by kernel_rfl
@[simp] theorem fieldAddr52_0 {id off : Nat} : afieldAddr Tryz.prog 52 (.ptr id off) 0 = some (.ptr id (off + 0)) := by simp [afieldAddr, tfield]
@[simp] theorem fieldAddr52_0c {x : AV} {off : Nat} : afieldAddr Tryz.prog 52 (.cptr x off) 0 = some (.cptr x (off + 0)) := by simp [afieldAddr, tfield]
@[simp] theorem fieldAddr52_1 {id off : Nat} : afieldAddr Tryz.prog 52 (.ptr id off) 1 = some (.ptr id (off + 1)) := by simp [afieldAddr, tfield]
@[simp] theorem fieldAddr52_1c {x : AV} {off : Nat} : afieldAddr Tryz.prog 52 (.cptr x off) 1 = some (.cptr x (off + 1)) := by simp [afieldAddr, tfield]
@[simp] theorem fieldAddr52_2 {id off : Nat} : afieldAddr Tryz.prog 52 (.ptr id off) 2 = some (.ptr id (off + 2)) := by simp [afieldAddr, tfield]
@[simp] theorem fieldAddr52_2c {x : AV} {off : Nat} : afieldAddr Tryz.prog 52 (.cptr x off) 2 = some (.cptr x (off + 2)) := by simp [afieldAddr, tfield]
attribute [simp] Tryz.underlying53
@[simp] theorem tagg53 : tagg Tryz.prog 53 = some false := by kernel_rfl
@[simp] theorem tsize53 : tsize Tryz.prog 53 = some 1 := by kernel_rfl
@[simp] theorem tbytes53 : tbytes Tryz.prog 53 = some 8 := by kernel_rfl
@[simp] theorem tzero53 : tzero Tryz.prog 53 = some (.sc (.nilFunc)) := by kernel_rfl
attribute [simp] Tryz.underlying54
@[simp] theorem tagg54 : tagg Tryz.prog 54 = some false := by kernel_rfl
@[simp] theorem tsize54 : tsize Tryz.prog 54 = some 1 := by kernel_rfl
@[simp] theorem tbytes54 : tbytes Tryz.prog 54 = some 8 := by kernel_rfl
@[simp] theorem tzero54 : tzero Tryz.prog 54 = some (.sc (.nilFunc)) := by kernel_rfl
attribute [simp] Tryz.underlying55
@[simp] theorem tagg55 : tagg Tryz.prog 55 = some false := by kernel_rfl
@[simp] theorem tsize55 : tsize Tryz.prog 55 = some 1 := by kernel_rfl
@[simp] theorem tbytes55 : tbytes Tryz.prog 55 = some 8 := by kernel_rfl
@[simp] theorem tzero55 : tzero Tryz.prog 55 = some (.sc (.nilFunc)) := by kernel_rfl
attribute [simp] Tryz.underlying56
@[simp] theorem tagg56 : tagg Tryz.prog 56 = some false := by kernel_rfl
@[simp] theorem tsize56 : tsize Tryz.prog 56 = some 1 := by kernel_rfl
@[simp] theorem tbytes56 : tbytes Tryz.prog 56 = some 8 := by kernel_rfl
@[simp] theorem tzero56 : tzero Tryz.prog 56 = some (.sc (.pointer Option.none)) := by kernel_rfl
attribute [simp] Tryz.underlying57
@[simp] theorem tagg57 : tagg Tryz.prog 57 = some false := by kernel_rfl
@[simp] theorem tsize57 : tsize Tryz.prog 57 = some 1 := by kernel_rfl
@[simp] theorem tbytes57 : tbytes Tryz.prog 57 = some 8 := by kernel_rfl
@[simp] theorem tzero57 : tzero Tryz.prog 57 = some (.sc (.nilFunc)) := by kernel_rfl
attribute [simp] Tryz.underlying58
@[simp] theorem tagg58 : tagg Tryz.prog 58 = some true := by kernel_rfl
@[simp] theorem tsize58 : tsize Tryz.prog 58 = some 3 := by kernel_rfl
@[simp] theorem tbytes58 : tbytes Tryz.prog 58 = some 56 := by kernel_rfl
@[simp] theorem tzero58 : tzero Tryz.prog 58 = some (.agg [.emp 0, .emp 0, .sc (.int .i64 0)]) := by kernel_rfl
@[simp] theorem fieldAddr58_0 {id off : Nat} : afieldAddr Tryz.prog 58 (.ptr id off) 0 = some (.ptr id (off + 0)) := by simp [afieldAddr, tfield]
@[simp] theorem fieldAddr58_0c {x : AV} {off : Nat} : afieldAddr Tryz.prog 58 (.cptr x off) 0 = some (.cptr x (off + 0)) := by simp [afieldAddr, tfield]
@[simp] theorem fieldAddr58_1 {id off : Nat} : afieldAddr Tryz.prog 58 (.ptr id off) 1 = some (.ptr id (off + 1)) := by simp [afieldAddr, tfield]
@[simp] theorem fieldAddr58_1c {x : AV} {off : Nat} : afieldAddr Tryz.prog 58 (.cptr x off) 1 = some (.cptr x (off + 1)) := by simp [afieldAddr, tfield]
@[simp] theorem fieldAddr58_2 {id off : Nat} : afieldAddr Tryz.prog 58 (.ptr id off) 2 = some (.ptr id (off + 2)) := by simp [afieldAddr, tfield]
@[simp] theorem fieldAddr58_2c {x : AV} {off : Nat} : afieldAddr Tryz.prog 58 (.cptr x off) 2 = some (.cptr x (off + 2)) := by simp [afieldAddr, tfield]
attribute [simp] Tryz.underlying59
@[simp] theorem tagg59 : tagg Tryz.prog 59 = some true := by kernel_rfl
@[simp] theorem tsize59 : tsize Tryz.prog 59 = some 3 := by kernel_rfl
@[simp] theorem tbytes59 : tbytes Tryz.prog 59 = some 56 := by kernel_rfl
@[simp] theorem tzero59 : tzero Tryz.prog 59 = some (.agg [.emp 0, .emp 0, .sc (.int .i64 0)]) := by kernel_rfl
@[simp] theorem fieldAddr59_0 {id off : Nat} : afieldAddr Tryz.prog 59 (.ptr id off) 0 = some (.ptr id (off + 0)) := by simp [afieldAddr, tfield]
@[simp] theorem fieldAddr59_0c {x : AV} {off : Nat} : afieldAddr Tryz.prog 59 (.cptr x off) 0 = some (.cptr x (off + 0)) := by simp [afieldAddr, tfield]
@[simp] theorem fieldAddr59_1 {id off : Nat} : afieldAddr Tryz.prog 59 (.ptr id off) 1 = some (.ptr id (off + 1)) := by simp [afieldAddr, tfield]
@[simp] theorem fieldAddr59_1c {x : AV} {off : Nat} : afieldAddr Tryz.prog 59 (.cptr x off) 1 = some (.cptr x (off + 1)) := by simp [afieldAddr, tfield]
@[simp] theorem fieldAddr59_2 {id off : Nat} : afieldAddr Tryz.prog 59 (.ptr id off) 2 = some (.ptr id (off + 2)) := by simp [afieldAddr, tfield]
@[simp] theorem fieldAddr59_2c {x : AV} {off : Nat} : afieldAddr Tryz.prog 59 (.cptr x off) 2 = some (.cptr x (off + 2)) := by simp [afieldAddr, tfield]
attribute [simp] Tryz.underlying60
@[simp] theorem tagg60 : tagg Tryz.prog 60 = some false := by kernel_rfl
@[simp] theorem tsize60 : tsize Tryz.prog 60 = some 1 := by kernel_rfl
@[simp] theorem tbytes60 : tbytes Tryz.prog 60 = some 8 := by kernel_rfl
@[simp] theorem tzero60 : tzero Tryz.prog 60 = some (.sc (.nilFunc)) := by kernel_rfl
attribute [simp] Tryz.underlying61
@[simp] theorem tagg61 : tagg Tryz.prog 61 = some false := by kernel_rfl
@[simp] theorem tsize61 : tsize Tryz.prog 61 = some 1 := by kernel_rfl
@[simp] theorem tbytes61 : tbytes Tryz.prog 61 = some 8 := by kernel_rfl
@[simp] theorem tzero61 : tzero Tryz.prog 61 = some (.sc (.nilFunc)) := by kernel_rfl
attribute [simp] Tryz.underlying62
@[simp] theorem tagg62 : tagg Tryz.prog 62 = some false := by kernel_rfl
@[simp] theorem tsize62 : tsize Tryz.prog 62 = some 1 := by kernel_rfl
@[simp] theorem tbytes62 : tbytes Tryz.prog 62 = some 24 := by kernel_rfl
@[simp] theorem tzero62 : tzero Tryz.prog 62 = some (.emp 0) := by kernel_rfl
@[simp] theorem telem62 : telem Tryz.prog 62 = some 39 := by kernel_rfl
@[simp] theorem nofz62 : nofz Tryz.prog 62 = false := by kernel_rfl
attribute [simp] Tryz.underlying63
@[simp] theorem tagg63 : tagg Tryz.prog 63 = some false := by kernel_rfl
@[simp] theorem tsize63 : tsize Tryz.prog 63 = some 1 := by kernel_rfl
@[simp] theorem tbytes63 : tbytes Tryz.prog 63 = some 8 := by kernel_rfl
@[simp] theorem tzero63 : tzero Tryz.prog 63 = some (.sc (.nilFunc)) := by kernel_rfl
attribute [simp] Tryz.underlying64
@[simp] theorem tagg64 : tagg Tryz.prog 64 = some false := by kernel_rfl
@[simp] theorem tsize64 : tsize Tryz.prog 64 = some 1 := by kernel_rfl
@[simp] theorem tbytes64 : tbytes Tryz.prog 64 = some 8 := by kernel_rfl
@[simp] theorem tzero64 : tzero Tryz.prog 64 = some (.sc (.nilFunc)) := by kernel_rfl
attribute [simp] Tryz.underlying66
@[simp] theorem tagg66 : tagg Tryz.prog 66 = some false := by kernel_rfl
@[simp] theorem tsize66 : tsize Tryz.prog 66 = some 1 := by kernel_rfl
@[simp] theorem tbytes66 : tbytes Tryz.prog 66 = some 8 := by kernel_rfl
@[simp] theorem tzero66 : tzero Tryz.prog 66 = some (.sc (.nilFunc)) := by kernel_rfl
attribute [simp] Tryz.underlying67
@[simp] theorem tagg67 : tagg Tryz.prog 67 = some false := by kernel_rfl
@[simp] theorem tsize67 : tsize Tryz.prog 67 = some 1 := by kernel_rfl
@[simp] theorem tbytes67 : tbytes Tryz.prog 67 = some 8 := by kernel_rfl
@[simp] theorem tzero67 : tzero Tryz.prog 67 = some (.sc (.nilFunc)) := by kernel_rfl
attribute [simp] Tryz.underlying68
@[simp] theorem tagg68 : tagg Tryz.prog 68 = some false := by kernel_rfl
@[simp] theorem tsize68 : tsize Tryz.prog 68 = some 1 := by kernel_rfl
@[simp] theorem tbytes68 : tbytes Tryz.prog 68 = some 8 := by kernel_rfl
@[simp] theorem tzero68 : tzero Tryz.prog 68 = some (.sc (.nilFunc)) := by kernel_rfl
attribute [simp] Tryz.underlying69
@[simp] theorem tagg69 : tagg Tryz.prog 69 = some false := by kernel_rfl
@[simp] theorem tsize69 : tsize Tryz.prog 69 = some 1 := by kernel_rfl
@[simp] theorem tbytes69 : tbytes Tryz.prog 69 = some 8 := by kernel_rfl
@[simp] theorem tzero69 : tzero Tryz.prog 69 = some (.sc (.nilFunc)) := by kernel_rfl
attribute [simp] Tryz.underlying70
@[simp] theorem tagg70 : tagg Tryz.prog 70 = some false := by kernel_rfl
@[simp] theorem tsize70 : tsize Tryz.prog 70 = some 1 := by kernel_rfl
@[simp] theorem tbytes70 : tbytes Tryz.prog 70 = some 8 := by kernel_rfl
@[simp] theorem tzero70 : tzero Tryz.prog 70 = some (.sc (.nilFunc)) := by kernel_rfl
attribute [simp] Tryz.underlying71
@[simp] theorem tagg71 : tagg Tryz.prog 71 = some false := by kernel_rfl
@[simp] theorem tsize71 : tsize Tryz.prog 71 = some 1 := by kernel_rfl
@[simp] theorem tbytes71 : tbytes Tryz.prog 71 = some 8 := by kernel_rfl
@[simp] theorem tzero71 : tzero Tryz.prog 71 = some (.sc (.nilFunc)) := by kernel_rfl
attribute [simp] Tryz.underlying72
@[simp] theorem tagg72 : tagg Tryz.prog 72 = some false := by kernel_rfl
@[simp] theorem tsize72 : tsize Tryz.prog 72 = some 1 := by kernel_rfl
@[simp] theorem tbytes72 : tbytes Tryz.prog 72 = some 8 := by kernel_rfl
@[simp] theorem tzero72 : tzero Tryz.prog 72 = some (.sc (.nilFunc)) := by kernel_rfl
attribute [simp] Tryz.underlying73
@[simp] theorem tagg73 : tagg Tryz.prog 73 = some false := by kernel_rfl
@[simp] theorem tsize73 : tsize Tryz.prog 73 = some 1 := by kernel_rfl
@[simp] theorem tbytes73 : tbytes Tryz.prog 73 = some 24 := by kernel_rfl
@[simp] theorem tzero73 : tzero Tryz.prog 73 = some (.emp 0) := by kernel_rfl
@[simp] theorem telem73 : telem Tryz.prog 73 = some 77 := by kernel_rfl
@[simp] theorem nofz73 : nofz Tryz.prog 73 = false := by kernel_rfl
attribute [simp] Tryz.underlying75
@[simp] theorem tagg75 : tagg Tryz.prog 75 = some false := by kernel_rfl
@[simp] theorem tsize75 : tsize Tryz.prog 75 = some 1 := by kernel_rfl
@[simp] theorem tbytes75 : tbytes Tryz.prog 75 = some 8 := by kernel_rfl
@[simp] theorem tzero75 : tzero Tryz.prog 75 = some (.sc (.nilFunc)) := by kernel_rfl
attribute [simp] Tryz.underlying76
@[simp] theorem tagg76 : tagg Tryz.prog 76 = some true := by kernel_rfl
@[simp] theorem tsize76 : tsize Tryz.prog 76 = some 7 := by kernel_rfl
@[simp] theorem tbytes76 : tbytes Tryz.prog 76 = some 112 := by kernel_rfl
@[simp] theorem tzero76 : tzero Tryz.prog 76 = some (.agg [.sc (.int .i64 0), .sc (.int .i64 0), .sc (.string ⟨⟨[]⟩⟩), .emp 0, .emp 0, .emp 0, .sc (.bool false)]) := by kernel_rfl
@[simp] theorem fieldAddr76_0 {id off : Nat} : afieldAddr Tryz.prog 76 (.ptr id off) 0 = some (.ptr id (off + 0)) := by simp [afieldAddr, tfield]
@[simp] theorem fieldAddr76_0c {x : AV} {off : Nat} : afieldAddr Tryz.prog 76 (.cptr x off) 0 = some (.cptr x (off + 0)) := by simp [afieldAddr, tfield]
@[simp] theorem fieldAddr76_1 {id off : Nat} : afieldAddr Tryz.prog 76 (.ptr id off) 1 = some (.ptr id (off + 6)) := by simp [afieldAddr, tfield]
@[simp] theorem fieldAddr76_1c {x : AV} {off : Nat} : afieldAddr Tryz.prog 76 (.cptr x off) 1 = some (.cptr x (off + 6)) := by simp [afieldAddr, tfield]
attribute [simp] Tryz.underlying77
@[simp] theorem tagg77 : tagg Tryz.prog 77 = some true := by kernel_rfl
@[simp] theorem tsize77 : tsize Tryz.prog 77 = some 7 := by kernel_rfl
@[simp] theorem tbytes77 : tbytes Tryz.prog 77 = some 112 := by kernel_rfl
@[simp] theorem tzero77 : tzero Tryz.prog 77 = some (.agg [.sc (.int .i64 0), .sc (.int .i64 0), .sc (.string ⟨⟨[]⟩⟩), .emp 0, .emp 0, .emp 0, .sc (.bool false)]) := by kernel_rfl
@[simp] theorem fieldAddr77_0 {id off : Nat} : afieldAddr Tryz.prog 77 (.ptr id off) 0 = some (.ptr id (off + 0)) := by simp [afieldAddr, tfield]
@[simp] theorem fieldAddr77_0c {x : AV} {off : Nat} : afieldAddr Tryz.prog 77 (.cptr x off) 0 = some (.cptr x (off + 0)) := by simp [afieldAddr, tfield]
@[simp] theorem fieldAddr77_1 {id off : Nat} : afieldAddr Tryz.prog 77 (.ptr id off) 1 = some (.ptr id (off + 6)) := by simp [afieldAddr, tfield]
@[simp] theorem fieldAddr77_1c {x : AV} {off : Nat} : afieldAddr Tryz.prog 77 (.cptr x off) 1 = some (.cptr x (off + 6)) := by simp [afieldAddr, tfield]
attribute [simp] Tryz.underlying78
@[simp] theorem tagg78 : tagg Tryz.prog 78 = some false := by kernel_rfl
@[simp] theorem tsize78 : tsize Tryz.prog 78 = some 1 := by kernel_rfl
@[simp] theorem tbytes78 : tbytes Tryz.prog 78 = some 8 := by kernel_rfl
@[simp] theorem tzero78 : tzero Tryz.prog 78 = some (.sc (.nilFunc)) := by kernel_rfl
attribute [simp] Tryz.underlying79
@[simp] theorem tagg79 : tagg Tryz.prog 79 = some false := by kernel_rfl
@[simp] theorem tsize79 : tsize Tryz.prog 79 = some 1 := by kernel_rfl
@[simp] theorem tbytes79 : tbytes Tryz.prog 79 = some 8 := by kernel_rfl
@[simp] theorem tzero79 : tzero Tryz.prog 79 = some (.sc (.nilFunc)) := by kernel_rfl
attribute [simp] Tryz.underlying81
@[simp] theorem tagg81 : tagg Tryz.prog 81 = some false := by kernel_rfl
@[simp] theorem tsize81 : tsize Tryz.prog 81 = some 1 := by kernel_rfl
@[simp] theorem tbytes81 : tbytes Tryz.prog 81 = some 8 := by kernel_rfl
@[simp] theorem tzero81 : tzero Tryz.prog 81 = some (.sc (.nilFunc)) := by kernel_rfl
attribute [simp] Tryz.underlying82
@[simp] theorem tagg82 : tagg Tryz.prog 82 = some false := by kernel_rfl
@[simp] theorem tsize82 : tsize Tryz.prog 82 = some 1 := by kernel_rfl
@[simp] theorem tbytes82 : tbytes Tryz.prog 82 = some 8 := by kernel_rfl
@[simp] theorem tzero82 : tzero Tryz.prog 82 = some (.sc (.nilFunc)) := by kernel_rfl
attribute [simp] Tryz.underlying83
@[simp] theorem tagg83 : tagg Tryz.prog 83 = some false := by kernel_rfl
@[simp] theorem tsize83 : tsize Tryz.prog 83 = some 1 := by kernel_rfl
@[simp] theorem tbytes83 : tbytes Tryz.prog 83 = some 8 := by kernel_rfl
@[simp] theorem tzero83 : tzero Tryz.prog 83 = some (.sc (.nilFunc)) := by kernel_rfl
attribute [simp] Tryz.underlying84
@[simp] theorem tagg84 : tagg Tryz.prog 84 = some false := by kernel_rfl
@[simp] theorem tsize84 : tsize Tryz.prog 84 = some 1 := by kernel_rfl
@[simp] theorem tbytes84 : tbytes Tryz.prog 84 = some 24 := by kernel_rfl
@[simp] theorem tzero84 : tzero Tryz.prog 84 = some (.emp 0) := by kernel_rfl
@[simp] theorem telem84 : telem Tryz.prog 84 = some 88 := by kernel_rfl
@[simp] theorem nofz84 : nofz Tryz.prog 84 = false := by kernel_rfl
attribute [simp] Tryz.underlying86
@[simp] theorem tagg86 : tagg Tryz.prog 86 = some false := by kernel_rfl
@[simp] theorem tsize86 : tsize Tryz.prog 86 = some 1 := by kernel_rfl
@[simp] theorem tbytes86 : tbytes Tryz.prog 86 = some 8 := by kernel_rfl
@[simp] theorem tzero86 : tzero Tryz.prog 86 = some (.sc (.nilFunc)) := by kernel_rfl
attribute [simp] Tryz.underlying87
@[simp] theorem tagg87 : tagg Tryz.prog 87 = some true := by kernel_rfl
@[simp] theorem tsize87 : tsize Tryz.prog 87 = some 7 := by kernel_rfl
@[simp] theorem tbytes87 : tbytes Tryz.prog 87 = some 112 := by kernel_rfl
@[simp] theorem tzero87 : tzero Tryz.prog 87 = some (.agg [.sc (.int .i64 0), .sc (.int .i64 0), .sc (.int .i64 0), .sc (.string ⟨⟨[]⟩⟩), .emp 0, .emp 0, .emp 0]) := by kernel_rfl
@[simp] theorem fieldAddr87_0 {id off : Nat} : afieldAddr Tryz.prog 87 (.ptr id off) 0 = some (.ptr id (off + 0)) := by simp [afieldAddr, tfield]
@[simp] theorem fieldAddr87_0c {x : AV} {off : Nat} : afieldAddr Tryz.prog 87 (.cptr x off) 0 = some (.cptr x (off + 0)) := by simp [afieldAddr, tfield]
@[simp] theorem fieldAddr87_1 {id off : Nat} : afieldAddr Tryz.prog 87 (.ptr id off) 1 = some (.ptr id (off + 1)) := by simp [afieldAddr, tfield]
@[simp] theorem fieldAddr87_1c {x : AV} {off : Nat} : afieldAddr Tryz.prog 87 (.cptr x off) 1 = some (.cptr x (off + 1)) := by simp [afieldAddr, tfield]
attribute [simp] Tryz.underlying88
@[simp] theorem tagg88 : tagg Tryz.prog 88 = some true := by kernel_rfl
@[simp] theorem tsize88 : tsize Tryz.prog 88 = some 7 := by kernel_rfl
@[simp] theorem tbytes88 : tbytes Tryz.prog 88 = some 112 := by kernel_rfl
@[simp] theorem tzero88 : tzero Tryz.prog 88 = some (.agg [.sc (.int .i64 0), .sc (.int .i64 0), .sc (.int .i64 0), .sc (.string ⟨⟨[]⟩⟩), .emp 0, .emp 0, .emp 0]) := by kernel_rfl
@[simp] theorem fieldAddr88_0 {id off : Nat} : afieldAddr Tryz.prog 88 (.ptr id off) 0 = some (.ptr id (off + 0)) := by simp [afieldAddr, tfield]
@[simp] theorem fieldAddr88_0c {x : AV} {off : Nat} : afieldAddr Tryz.prog 88 (.cptr x off) 0 = some (.cptr x (off + 0)) := by simp [afieldAddr, tfield]
@[simp] theorem fieldAddr88_1 {id off : Nat} : afieldAddr Tryz.prog 88 (.ptr id off) 1 = some (.ptr id (off + 1)) := by simp [afieldAddr, tfield]
@[simp] theorem fieldAddr88_1c {x : AV} {off : Nat} : afieldAddr Tryz.prog 88 (.cptr x off) 1 = some (.cptr x (off + 1)) := by simp [afieldAddr, tfield]
attribute [simp] Tryz.underlying90
@[simp] theorem tagg90 : tagg Tryz.prog 90 = some false := by kernel_rfl
@[simp] theorem tsize90 : tsize Tryz.prog 90 = some 1 := by kernel_rfl
@[simp] theorem tbytes90 : tbytes Tryz.prog 90 = some 8 := by kernel_rfl
@[simp] theorem tzero90 : tzero Tryz.prog 90 = some (.sc (.nilFunc)) := by kernel_rfl
attribute [simp] Tryz.underlying92
@[simp] theorem tagg92 : tagg Tryz.prog 92 = some false := by kernel_rfl
@[simp] theorem tsize92 : tsize Tryz.prog 92 = some 1 := by kernel_rfl
@[simp] theorem tbytes92 : tbytes Tryz.prog 92 = some 8 := by kernel_rfl
@[simp] theorem tzero92 : tzero Tryz.prog 92 = some (.sc (.nilFunc)) := by kernel_rfl
attribute [simp] Tryz.underlying93
@[simp] theorem tagg93 : tagg Tryz.prog 93 = some false := by kernel_rfl
@[simp] theorem tsize93 : tsize Tryz.prog 93 = some 1 := by kernel_rfl
@[simp] theorem tbytes93 : tbytes Tryz.prog 93 = some 8 := by kernel_rfl
@[simp] theorem tzero93 : tzero Tryz.prog 93 = some (.sc (.pointer Option.none)) := by kernel_rfl
attribute [simp] Tryz.underlying94
@[simp] theorem tagg94 : tagg Tryz.prog 94 = some true := by kernel_rfl
@[simp] theorem tsize94 : tsize Tryz.prog 94 = some 2 := by kernel_rfl
@[simp] theorem tbytes94 : tbytes Tryz.prog 94 = some 32 := by kernel_rfl
@[simp] theorem tzero94 : tzero Tryz.prog 94 = some (.agg [.emp 0, .sc (.nilFunc)]) := by kernel_rfl
@[simp] theorem fieldAddr94_0 {id off : Nat} : afieldAddr Tryz.prog 94 (.ptr id off) 0 = some (.ptr id (off + 0)) := by simp [afieldAddr, tfield]
@[simp] theorem fieldAddr94_0c {x : AV} {off : Nat} : afieldAddr Tryz.prog 94 (.cptr x off) 0 = some (.cptr x (off + 0)) := by simp [afieldAddr, tfield]
@[simp] theorem fieldAddr94_1 {id off : Nat} : afieldAddr Tryz.prog 94 (.ptr id off) 1 = some (.ptr id (off + 1)) := by simp [afieldAddr, tfield]
@[simp] theorem fieldAddr94_1c {x : AV} {off : Nat} : afieldAddr Tryz.prog 94 (.cptr x off) 1 = some (.cptr x (off + 1)) := by simp [afieldAddr, tfield]
attribute [simp] Tryz.underlying95
@[simp] theorem tagg95 : tagg Tryz.prog 95 = some true := by kernel_rfl
@[simp] theorem tsize95 : tsize Tryz.prog 95 = some 2 := by kernel_rfl
@[simp] theorem tbytes95 : tbytes Tryz.prog 95 = some 32 := by kernel_rfl
@[simp] theorem tzero95 : tzero Tryz.prog 95 = some (.agg [.emp 0, .sc (.nilFunc)]) := by kernel_rfl
@[simp] theorem fieldAddr95_0 {id off : Nat} : afieldAddr Tryz.prog 95 (.ptr id off) 0 = some (.ptr id (off + 0)) := by simp [afieldAddr, tfield]
@[simp] theorem fieldAddr95_0c {x : AV} {off : Nat} : afieldAddr Tryz.prog 95 (.cptr x off) 0 = some (.cptr x (off + 0)) := by simp [afieldAddr, tfield]
@[simp] theorem fieldAddr95_1 {id off : Nat} : afieldAddr Tryz.prog 95 (.ptr id off) 1 = some (.ptr id (off + 1)) := by simp [afieldAddr, tfield]
@[simp] theorem fieldAddr95_1c {x : AV} {off : Nat} : afieldAddr Tryz.prog 95 (.cptr x off) 1 = some (.cptr x (off + 1)) := by simp [afieldAddr, tfield]
attribute [simp] Tryz.underlying96
@[simp] theorem tagg96 : tagg Tryz.prog 96 = some false := by kernel_rfl
@[simp] theorem tsize96 : tsize Tryz.prog 96 = some 1 := by kernel_rfl
@[simp] theorem tbytes96 : tbytes Tryz.prog 96 = some 8 := by kernel_rfl
@[simp] theorem tzero96 : tzero Tryz.prog 96 = some (.sc (.nilFunc)) := by kernel_rfl
attribute [simp] Tryz.underlying97
@[simp] theorem tagg97 : tagg Tryz.prog 97 = some false := by kernel_rfl
@[simp] theorem tsize97 : tsize Tryz.prog 97 = some 1 := by kernel_rfl
@[simp] theorem tbytes97 : tbytes Tryz.prog 97 = some 8 := by kernel_rfl
@[simp] theorem tzero97 : tzero Tryz.prog 97 = some (.sc (.nilFunc)) := by kernel_rfl
attribute [simp] Tryz.underlying98
@[simp] theorem tagg98 : tagg Tryz.prog 98 = some false := by kernel_rfl
@[simp] theorem tsize98 : tsize Tryz.prog 98 = some 1 := by kernel_rfl
@[simp] theorem tbytes98 : tbytes Tryz.prog 98 = some 8 := by kernel_rfl
@[simp] theorem tzero98 : tzero Tryz.prog 98 = some (.sc (.nilFunc)) := by kernel_rfl
attribute [simp] Tryz.underlying99
@[simp] theorem tagg99 : tagg Tryz.prog 99 = some false := by kernel_rfl
@[simp] theorem tsize99 : tsize Tryz.prog 99 = some 1 := by kernel_rfl
@[simp] theorem tbytes99 : tbytes Tryz.prog 99 = some 8 := by kernel_rfl
@[simp] theorem tzero99 : tzero Tryz.prog 99 = some (.sc (.map Option.none)) := by kernel_rfl
@[simp] theorem tmap99 : tmap Tryz.prog 99 = some (3, 4) := by kernel_rfl
attribute [simp] Tryz.underlying100
@[simp] theorem tagg100 : tagg Tryz.prog 100 = some false := by kernel_rfl
@[simp] theorem tsize100 : tsize Tryz.prog 100 = some 1 := by kernel_rfl
@[simp] theorem tbytes100 : tbytes Tryz.prog 100 = some 8 := by kernel_rfl
@[simp] theorem tzero100 : tzero Tryz.prog 100 = some (.sc (.nilFunc)) := by kernel_rfl
attribute [simp] Tryz.underlying101
@[simp] theorem tagg101 : tagg Tryz.prog 101 = some false := by kernel_rfl
@[simp] theorem tsize101 : tsize Tryz.prog 101 = some 1 := by kernel_rfl
@[simp] theorem tbytes101 : tbytes Tryz.prog 101 = some 8 := by kernel_rfl
@[simp] theorem tzero101 : tzero Tryz.prog 101 = some (.sc (.nilFunc)) := by kernel_rfl
attribute [simp] Tryz.underlying102
@[simp] theorem tagg102 : tagg Tryz.prog 102 = some false := by kernel_rfl
@[simp] theorem tsize102 : tsize Tryz.prog 102 = some 1 := by kernel_rfl
@[simp] theorem tbytes102 : tbytes Tryz.prog 102 = some 8 := by kernel_rfl
@[simp] theorem tzero102 : tzero Tryz.prog 102 = some (.sc (.nilFunc)) := by kernel_rfl
attribute [simp] Tryz.underlying103
@[simp] theorem tagg103 : tagg Tryz.prog 103 = some false := by kernel_rfl
@[simp] theorem tsize103 : tsize Tryz.prog 103 = some 1 := by kernel_rfl
@[simp] theorem tbytes103 : tbytes Tryz.prog 103 = some 8 := by kernel_rfl
@[simp] theorem tzero103 : tzero Tryz.prog 103 = some (.sc (.nilFunc)) := by kernel_rfl
attribute [simp] Tryz.underlying104
@[simp] theorem tagg104 : tagg Tryz.prog 104 = some false := by kernel_rfl
@[simp] theorem tsize104 : tsize Tryz.prog 104 = some 1 := by kernel_rfl
@[simp] theorem tbytes104 : tbytes Tryz.prog 104 = some 24 := by kernel_rfl
@[simp] theorem tzero104 : tzero Tryz.prog 104 = some (.emp 0) := by kernel_rfl
@[simp] theorem telem104 : telem Tryz.prog 104 = some 23 := by kernel_rfl
@[simp] theorem nofz104 : nofz Tryz.prog 104 = false := by kernel_rfl
attribute [simp] Tryz.underlying105
@[simp] theorem tagg105 : tagg Tryz.prog 105 = some false := by kernel_rfl
@[simp] theorem tsize105 : tsize Tryz.prog 105 = some 1 := by kernel_rfl
@[simp] theorem tbytes105 : tbytes Tryz.prog 105 = some 8 := by kernel_rfl
@[simp] theorem tzero105 : tzero Tryz.prog 105 = some (.sc (.nilFunc)) := by kernel_rfl
attribute [simp] Tryz.underlying106
@[simp] theorem tagg106 : tagg Tryz.prog 106 = some false := by kernel_rfl
@[simp] theorem tsize106 : tsize Tryz.prog 106 = some 1 := by kernel_rfl
@[simp] theorem tbytes106 : tbytes Tryz.prog 106 = some 24 := by kernel_rfl
@[simp] theorem tzero106 : tzero Tryz.prog 106 = some (.emp 0) := by kernel_rfl
@[simp] theorem telem106 : telem Tryz.prog 106 = some 113 := by kernel_rfl
@[simp] theorem nofz106 : nofz Tryz.prog 106 = false := by kernel_rfl
attribute [simp] Tryz.underlying108
@[simp] theorem tagg108 : tagg Tryz.prog 108 = some false := by kernel_rfl
@[simp] theorem tsize108 : tsize Tryz.prog 108 = some 1 := by kernel_rfl
@[simp] theorem tbytes108 : tbytes Tryz.prog 108 = some 8 := by kernel_rfl
@[simp] theorem tzero108 : tzero Tryz.prog 108 = some (.sc (.nilFunc)) := by kernel_rfl
attribute [simp] Tryz.underlying109
@[simp] theorem tagg109 : tagg Tryz.prog 109 = some false := by kernel_rfl
@[simp] theorem tsize109 : tsize Tryz.prog 109 = some 1 := by kernel_rfl
@[simp] theorem tbytes109 : tbytes Tryz.prog 109 = some 8 := by kernel_rfl
@[simp] theorem tzero109 : tzero Tryz.prog 109 = some (.sc (.pointer Option.none)) := by kernel_rfl
attribute [simp] Tryz.underlying110
@[simp] theorem tagg110 : tagg Tryz.prog 110 = some true := by kernel_rfl
@[simp] theorem tsize110 : tsize Tryz.prog 110 = some 2 := by kernel_rfl
@[simp] theorem tbytes110 : tbytes Tryz.prog 110 = some 32 := by kernel_rfl
@[simp] theorem tzero110 : tzero Tryz.prog 110 = some (.agg [.emp 0, .sc (.int .i64 0)]) := by kernel_rfl
@[simp] theorem fieldAddr110_0 {id off : Nat} : afieldAddr Tryz.prog 110 (.ptr id off) 0 = some (.ptr id (off + 0)) := by simp [afieldAddr, tfield]
@[simp] theorem fieldAddr110_0c {x : AV} {off : Nat} : afieldAddr Tryz.prog 110 (.cptr x off) 0 = some (.cptr x (off + 0)) := by simp [afieldAddr, tfield]
@[simp] theorem fieldAddr110_1 {id off : Nat} : afieldAddr Tryz.prog 110 (.ptr id off) 1 = some (.ptr id (off + 1)) := by simp [afieldAddr, tfield]
@[simp] theorem fieldAddr110_1c {x : AV} {off : Nat} : afieldAddr Tryz.prog 110 (.cptr x off) 1 = some (.cptr x (off + 1)) := by simp [afieldAddr, tfield]
attribute [simp] Tryz.underlying111
@[simp] theorem tagg111 : tagg Tryz.prog 111 = some true := by kernel_rfl
@[simp] theorem tsize111 : tsize Tryz.prog 111 = some 2 := by kernel_rfl
@[simp] theorem tbytes111 : tbytes Tryz.prog 111 = some 32 := by kernel_rfl
@[simp] theorem tzero111 : tzero Tryz.prog 111 = some (.agg [.emp 0, .sc (.int .i64 0)]) := by kernel_rfl
@[simp] theorem fieldAddr111_0 {id off : Nat} : afieldAddr Tryz.prog 111 (.ptr id off) 0 = some (.ptr id (off + 0)) := by simp [afieldAddr, tfield]
@[simp] theorem fieldAddr111_0c {x : AV} {off : Nat} : afieldAddr Tryz.prog 111 (.cptr x off) 0 = some (.cptr x (off + 0)) := by simp [afieldAddr, tfield]
@[simp] theorem fieldAddr111_1 {id off : Nat} : afieldAddr Tryz.prog 111 (.ptr id off) 1 = some (.ptr id (off + 1)) := by simp [afieldAddr, tfield]
@[simp] theorem fieldAddr111_1c {x : AV} {off : Nat} : afieldAddr Tryz.prog 111 (.cptr x off) 1 = some (.cptr x (off + 1)) := by simp [afieldAddr, tfield]
attribute [simp] Tryz.underlying112
@[simp] theorem tagg112 : tagg Tryz.prog 112 = some true := by kernel_rfl
@[simp] theorem tsize112 : tsize Tryz.prog 112 = some 5 := by kernel_rfl
@[simp] theorem tbytes112 : tbytes Tryz.prog 112 = some 48 := by kernel_rfl
@[simp] theorem tzero112 : tzero Tryz.prog 112 = some (.agg [.sc (.int .i64 0), .sc (.int .i64 0), .sc (.int .i64 0), .sc (.int .i64 0), .sc (.string ⟨⟨[]⟩⟩)]) := by kernel_rfl
@[simp] theorem fieldAddr112_0 {id off : Nat} : afieldAddr Tryz.prog 112 (.ptr id off) 0 = some (.ptr id (off + 0)) := by simp [afieldAddr, tfield]
@[simp] theorem fieldAddr112_0c {x : AV} {off : Nat} : afieldAddr Tryz.prog 112 (.cptr x off) 0 = some (.cptr x (off + 0)) := by simp [afieldAddr, tfield]
@[simp] theorem fieldAddr112_1 {id off : Nat} : afieldAddr Tryz.prog 112 (.ptr id off) 1 = some (.ptr id (off + 1)) := by simp [afieldAddr, tfield]
@[simp] theorem fieldAddr112_1c {x : AV} {off : Nat} : afieldAddr Tryz.prog 112 (.cptr x off) 1 = some (.cptr x (off + 1)) := by simp [afieldAddr, tfield]
@[simp] theorem fieldAddr112_2 {id off : Nat} : afieldAddr Tryz.prog 112 (.ptr id off) 2 = some (.ptr id (off + 2)) := by simp [afieldAddr, tfield]
@[simp] theorem fieldAddr112_2c {x : AV} {off : Nat} : afieldAddr Tryz.prog 112 (.cptr x off) 2 = some (.cptr x (off + 2)) := by simp [afieldAddr, tfield]
@[simp] theorem fieldAddr112_3 {id off : Nat} : afieldAddr Tryz.prog 112 (.ptr id off) 3 = some (.ptr id (off + 3)) := by simp [afieldAddr, tfield]
@[simp] theorem fieldAddr112_3c {x : AV} {off : Nat} : afieldAddr Tryz.prog 112 (.cptr x off) 3 = some (.cptr x (off + 3)) := by simp [afieldAddr, tfield]
@[simp] theorem fieldAddr112_4 {id off : Nat} : afieldAddr Tryz.prog 112 (.ptr id off) 4 = some (.ptr id (off + 4)) := by simp [afieldAddr, tfield]
@[simp] theorem fieldAddr112_4c {x : AV} {off : Nat} : afieldAddr Tryz.prog 112 (.cptr x off) 4 = some (.cptr x (off + 4)) := by simp [afieldAddr, tfield]
attribute [simp] Tryz.underlying113
@[simp] theorem tagg113 : tagg Tryz.prog 113 = some true := by kernel_rfl
@[simp] theorem tsize113 : tsize Tryz.prog 113 = some 5 := by kernel_rfl
@[simp] theorem tbytes113 : tbytes Tryz.prog 113 = some 48 := by kernel_rfl
@[simp] theorem tzero113 : tzero Tryz.prog 113 = some (.agg [.sc (.int .i64 0), .sc (.int .i64 0), .sc (.int .i64 0), .sc (.int .i64 0), .sc (.string ⟨⟨[]⟩⟩)]) := by kernel_rfl
@[simp] theorem fieldAddr113_0 {id off : Nat} : afieldAddr Tryz.prog 113 (.ptr id off) 0 = some (.ptr id (off + 0)) := by simp [afieldAddr, tfield]
@[simp] theorem fieldAddr113_0c {x : AV} {off : Nat} : afieldAddr Tryz.prog 113 (.cptr x off) 0 = some (.cptr x (off + 0)) := by simp [afieldAddr, tfield]
@[simp] theorem fieldAddr113_1 {id off : Nat} : afieldAddr Tryz.prog 113 (.ptr id off) 1 = some (.ptr id (off + 1)) := by simp [afieldAddr, tfield]
@[simp] theorem fieldAddr113_1c {x : AV} {off : Nat} : afieldAddr Tryz.prog 113 (.cptr x off) 1 = some (.cptr x (off + 1)) := by simp [afieldAddr, tfield]
@[simp] theorem fieldAddr113_2 {id off : Nat} : afieldAddr Tryz.prog 113 (.ptr id off) 2 = some (.ptr id (off + 2)) := by simp [afieldAddr, tfield]
@[simp] theorem fieldAddr113_2c {x : AV} {off : Nat} : afieldAddr Tryz.prog 113 (.cptr x off) 2 = some (.cptr x (off + 2)) := by simp [afieldAddr, tfield]
@[simp] theorem fieldAddr113_3 {id off : Nat} : afieldAddr Tryz.prog 113 (.ptr id off) 3 = some (.ptr id (off + 3)) := by simp [afieldAddr, tfield]
@[simp] theorem fieldAddr113_3c {x : AV} {off : Nat} : afieldAddr Tryz.prog 113 (.cptr x off) 3 = some (.cptr x (off + 3)) := by simp [afieldAddr, tfield]
@[simp] theorem fieldAddr113_4 {id off : Nat} : afieldAddr Tryz.prog 113 (.ptr id off) 4 = some (.ptr id (off + 4)) := by simp [afieldAddr, tfield]
@[simp] theorem fieldAddr113_4c {x : AV} {off : Nat} : afieldAddr Tryz.prog 113 (.cptr x off) 4 = some (.cptr x (off + 4)) := by simp [afieldAddr, tfield]
attribute [simp] Tryz.underlying114
@[simp] theorem tagg114 : tagg Tryz.prog 114 = some false := by kernel_rfl
@[simp] theorem tsize114 : tsize Tryz.prog 114 = some 1 := by kernel_rfl
@[simp] theorem tbytes114 : tbytes Tryz.prog 114 = some 8 := by kernel_rfl
@[simp] theorem tzero114 : tzero Tryz.prog 114 = some (.sc (.nilFunc)) := by kernel_rfl
attribute [simp] Tryz.underlying115
@[simp] theorem tagg115 : tagg Tryz.prog 115 = some false := by kernel_rfl
@[simp] theorem tsize115 : tsize Tryz.prog 115 = some 1 := by kernel_rfl
@[simp] theorem tbytes115 : tbytes Tryz.prog 115 = some 8 := by kernel_rfl
@[simp] theorem tzero115 : tzero Tryz.prog 115 = some (.sc (.nilFunc)) := by kernel_rfl
attribute [simp] Tryz.underlying116
@[simp] theorem tagg116 : tagg Tryz.prog 116 = some false := by kernel_rfl
@[simp] theorem tsize116 : tsize Tryz.prog 116 = some 1 := by kernel_rfl
@[simp] theorem tbytes116 : tbytes Tryz.prog 116 = some 8 := by kernel_rfl
@[simp] theorem tzero116 : tzero Tryz.prog 116 = some (.sc (.nilFunc)) := by kernel_rfl
attribute [simp] Tryz.underlying117
@[simp] theorem tagg117 : tagg Tryz.prog 117 = some false := by kernel_rfl
@[simp] theorem tsize117 : tsize Tryz.prog 117 = some 1 := by kernel_rfl
@[simp] theorem tbytes117 : tbytes Tryz.prog 117 = some 8 := by kernel_rfl
@[simp] theorem tzero117 : tzero Tryz.prog 117 = some (.sc (.nilFunc)) := by kernel_rfl
attribute [simp] Tryz.underlying118
@[simp] theorem tagg118 : tagg Tryz.prog 118 = some false := by kernel_rfl
@[simp] theorem tsize118 : tsize Tryz.prog 118 = some 1 := by kernel_rfl
@[simp] theorem tbytes118 : tbytes Tryz.prog 118 = some 8 := by kernel_rfl
@[simp] theorem tzero118 : tzero Tryz.prog 118 = some (.sc (.nilFunc)) := by kernel_rfl
attribute [simp] Tryz.underlying119
@[simp] theorem tagg119 : tagg Tryz.prog 119 = some false := by kernel_rfl
@[simp] theorem tsize119 : tsize Tryz.prog 119 = some 1 := by kernel_rfl
@[simp] theorem tbytes119 : tbytes Tryz.prog 119 = some 8 := by kernel_rfl
@[simp] theorem tzero119 : tzero Tryz.prog 119 = some (.sc (.nilFunc)) := by kernel_rfl
attribute [simp] Tryz.underlying120
@[simp] theorem tagg120 : tagg Tryz.prog 120 = some false := by kernel_rfl
@[simp] theorem tsize120 : tsize Tryz.prog 120 = some 1 := by kernel_rfl
@[simp] theorem tbytes120 : tbytes Tryz.prog 120 = some 8 := by kernel_rfl
@[simp] theorem tzero120 : tzero Tryz.prog 120 = some (.sc (.nilFunc)) := by kernel_rfl
attribute [simp] Tryz.underlying121
@[simp] theorem tagg121 : tagg Tryz.prog 121 = some false := by kernel_rfl
@[simp] theorem tsize121 : tsize Tryz.prog 121 = some 1 := by kernel_rfl
@[simp] theorem tbytes121 : tbytes Tryz.prog 121 = some 8 := by kernel_rfl
@[simp] theorem tzero121 : tzero Tryz.prog 121 = some (.sc (.nilFunc)) := by kernel_rfl
attribute [simp] Tryz.underlying122
@[simp] theorem tagg122 : tagg Tryz.prog 122 = some false := by kernel_rfl
@[simp] theorem tsize122 : tsize Tryz.prog 122 = some 1 := by kernel_rfl
@[simp] theorem tbytes122 : tbytes Tryz.prog 122 = some 8 := by kernel_rfl
@[simp] theorem tzero122 : tzero Tryz.prog 122 = some (.sc (.nilFunc)) := by kernel_rfl
attribute [simp] Tryz.underlying123
@[simp] theorem tagg123 : tagg Tryz.prog 123 = some false := by kernel_rfl
@[simp] theorem tsize123 : tsize Tryz.prog 123 = some 1 := by kernel_rfl
@[simp] theorem tbytes123 : tbytes Tryz.prog 123 = some 8 := by kernel_rfl
@[simp] theorem tzero123 : tzero Tryz.prog 123 = some (.sc (.nilFunc)) := by kernel_rfl
attribute [simp] Tryz.underlying124
@[simp] theorem tagg124 : tagg Tryz.prog 124 = some false := by kernel_rfl
@[simp] theorem tsize124 : tsize Tryz.prog 124 = some 1 := by kernel_rfl
@[simp] theorem tbytes124 : tbytes Tryz.prog 124 = some 8 := by kernel_rfl
@[simp] theorem tzero124 : tzero Tryz.prog 124 = some (.sc (.nilFunc)) := by kernel_rfl
attribute [simp] Tryz.underlying126
@[simp] theorem tagg126 : tagg Tryz.prog 126 = some false := by kernel_rfl
@[simp] theorem tsize126 : tsize Tryz.prog 126 = some 1 := by kernel_rfl
@[simp] theorem tbytes126 : tbytes Tryz.prog 126 = some 8 := by kernel_rfl
@[simp] theorem tzero126 : tzero Tryz.prog 126 = some (.sc (.nilFunc)) := by kernel_rfl
attribute [simp] Tryz.underlying128
@[simp] theorem tagg128 : tagg Tryz.prog 128 = some false := by kernel_rfl
@[simp] theorem tsize128 : tsize Tryz.prog 128 = some 1 := by kernel_rfl
@[simp] theorem tbytes128 : tbytes Tryz.prog 128 = some 8 := by kernel_rfl
@[simp] theorem tzero128 : tzero Tryz.prog 128 = some (.sc (.nilFunc)) := by kernel_rfl
attribute [simp] Tryz.underlying129
@[simp] theorem tagg129 : tagg Tryz.prog 129 = some false := by kernel_rfl
@[simp] theorem tsize129 : tsize Tryz.prog 129 = some 1 := by kernel_rfl
@[simp] theorem tbytes129 : tbytes Tryz.prog 129 = some 8 := by kernel_rfl
@[simp] theorem tzero129 : tzero Tryz.prog 129 = some (.sc (.nilFunc)) := by kernel_rfl
attribute [simp] Tryz.underlying130
@[simp] theorem tagg130 : tagg Tryz.prog 130 = some false := by kernel_rfl
@[simp] theorem tsize130 : tsize Tryz.prog 130 = some 1 := by kernel_rfl
@[simp] theorem tbytes130 : tbytes Tryz.prog 130 = some 8 := by kernel_rfl
@[simp] theorem tzero130 : tzero Tryz.prog 130 = some (.sc (.nilFunc)) := by kernel_rfl
attribute [simp] Tryz.underlying131
@[simp] theorem tagg131 : tagg Tryz.prog 131 = some false := by kernel_rfl
@[simp] theorem tsize131 : tsize Tryz.prog 131 = some 1 := by kernel_rfl
@[simp] theorem tbytes131 : tbytes Tryz.prog 131 = some 8 := by kernel_rfl
@[simp] theorem tzero131 : tzero Tryz.prog 131 = some (.sc (.nilFunc)) := by kernel_rfl
attribute [simp] Tryz.underlying132
@[simp] theorem tagg132 : tagg Tryz.prog 132 = some false := by kernel_rfl
@[simp] theorem tsize132 : tsize Tryz.prog 132 = some 1 := by kernel_rfl
@[simp] theorem tbytes132 : tbytes Tryz.prog 132 = some 8 := by kernel_rfl
@[simp] theorem tzero132 : tzero Tryz.prog 132 = some (.sc (.nilFunc)) := by kernel_rfl
attribute [simp] Tryz.underlying133
@[simp] theorem tagg133 : tagg Tryz.prog 133 = some false := by kernel_rfl
@[simp] theorem tsize133 : tsize Tryz.prog 133 = some 1 := by kernel_rfl
@[simp] theorem tbytes133 : tbytes Tryz.prog 133 = some 8 := by kernel_rfl
@[simp] theorem tzero133 : tzero Tryz.prog 133 = some (.sc (.nilFunc)) := by kernel_rfl
attribute [simp] Tryz.underlying134
@[simp] theorem tagg134 : tagg Tryz.prog 134 = some false := by kernel_rfl
@[simp] theorem tsize134 : tsize Tryz.prog 134 = some 1 := by kernel_rfl
@[simp] theorem tbytes134 : tbytes Tryz.prog 134 = some 8 := by kernel_rfl
@[simp] theorem tzero134 : tzero Tryz.prog 134 = some (.sc (.nilFunc)) := by kernel_rfl
attribute [simp] Tryz.underlying135
@[simp] theorem tagg135 : tagg Tryz.prog 135 = some false := by kernel_rfl
@[simp] theorem tsize135 : tsize Tryz.prog 135 = some 1 := by kernel_rfl
@[simp] theorem tbytes135 : tbytes Tryz.prog 135 = some 8 := by kernel_rfl
@[simp] theorem tzero135 : tzero Tryz.prog 135 = some (.sc (.nilFunc)) := by kernel_rfl
attribute [simp] Tryz.underlying136
@[simp] theorem tagg136 : tagg Tryz.prog 136 = some false := by kernel_rfl
@[simp] theorem tsize136 : tsize Tryz.prog 136 = some 1 := by kernel_rfl
@[simp] theorem tbytes136 : tbytes Tryz.prog 136 = some 8 := by kernel_rfl
@[simp] theorem tzero136 : tzero Tryz.prog 136 = some (.sc (.nilFunc)) := by kernel_rfl
attribute [simp] Tryz.underlying137
@[simp] theorem tagg137 : tagg Tryz.prog 137 = some false := by kernel_rfl
@[simp] theorem tsize137 : tsize Tryz.prog 137 = some 1 := by kernel_rfl
@[simp] theorem tbytes137 : tbytes Tryz.prog 137 = some 8 := by kernel_rfl
@[simp] theorem tzero137 : tzero Tryz.prog 137 = some (.sc (.nilFunc)) := by kernel_rfl
attribute [simp] Tryz.underlying138
@[simp] theorem tagg138 : tagg Tryz.prog 138 = some false := by kernel_rfl
@[simp] theorem tsize138 : tsize Tryz.prog 138 = some 1 := by kernel_rfl
@[simp] theorem tbytes138 : tbytes Tryz.prog 138 = some 8 := by kernel_rfl
@[simp] theorem tzero138 : tzero Tryz.prog 138 = some (.sc (.nilFunc)) := by kernel_rfl
attribute [simp] Tryz.underlying139
@[simp] theorem tagg139 : tagg Tryz.prog 139 = some false := by kernel_rfl
@[simp] theorem tsize139 : tsize Tryz.prog 139 = some 1 := by kernel_rfl
@[simp] theorem tbytes139 : tbytes Tryz.prog 139 = some 24 := by kernel_rfl
@[simp] theorem tzero139 : tzero Tryz.prog 139 = some (.emp 0) := by kernel_rfl
@[simp] theorem telem139 : telem Tryz.prog 139 = some 5 := by kernel_rfl
@[simp] theorem nofz139 : nofz Tryz.prog 139 = false := by kernel_rfl
attribute [simp] Tryz.underlying141
@[simp] theorem tagg141 : tagg Tryz.prog 141 = some false := by kernel_rfl
@[simp] theorem tsize141 : tsize Tryz.prog 141 = some 1 := by kernel_rfl
@[simp] theorem tbytes141 : tbytes Tryz.prog 141 = some 8 := by kernel_rfl
@[simp] theorem tzero141 : tzero Tryz.prog 141 = some (.sc (.nilFunc)) := by kernel_rfl
attribute [simp] Tryz.underlying142
@[simp] theorem tagg142 : tagg Tryz.prog 142 = some false := by kernel_rfl
@[simp] theorem tsize142 : tsize Tryz.prog 142 = some 1 := by kernel_rfl
@[simp] theorem tbytes142 : tbytes Tryz.prog 142 = some 8 := by kernel_rfl
@[simp] theorem tzero142 : tzero Tryz.prog 142 = some (.sc (.nilFunc)) := by kernel_rfl
attribute [simp] Tryz.underlying143
@[simp] theorem tagg143 : tagg Tryz.prog 143 = some false := by kernel_rfl
@[simp] theorem tsize143 : tsize Tryz.prog 143 = some 1 := by kernel_rfl
@[simp] theorem tbytes143 : tbytes Tryz.prog 143 = some 8 := by kernel_rfl
@[simp] theorem tzero143 : tzero Tryz.prog 143 = some (.sc (.nilFunc)) := by kernel_rfl
attribute [simp] Tryz.underlying145
@[simp] theorem tagg145 : tagg Tryz.prog 145 = some false := by kernel_rfl
@[simp] theorem tsize145 : tsize Tryz.prog 145 = some 1 := by kernel_rfl
@[simp] theorem tbytes145 : tbytes Tryz.prog 145 = some 8 := by kernel_rfl
@[simp] theorem tzero145 : tzero Tryz.prog 145 = some (.sc (.nilFunc)) := by kernel_rfl
attribute [simp] Tryz.underlying146
@[simp] theorem tagg146 : tagg Tryz.prog 146 = some false := by kernel_rfl
@[simp] theorem tsize146 : tsize Tryz.prog 146 = some 1 := by kernel_rfl
@[simp] theorem tbytes146 : tbytes Tryz.prog 146 = some 8 := by kernel_rfl
@[simp] theorem tzero146 : tzero Tryz.prog 146 = some (.sc (.nilFunc)) := by kernel_rfl
attribute [simp] Tryz.underlying147
@[simp] theorem tagg147 : tagg Tryz.prog 147 = some false := by kernel_rfl
@[simp] theorem tsize147 : tsize Tryz.prog 147 = some 1 := by kernel_rfl
@[simp] theorem tbytes147 : tbytes Tryz.prog 147 = some 8 := by kernel_rfl
@[simp] theorem tzero147 : tzero Tryz.prog 147 = some (.sc (.nilFunc)) := by kernel_rfl
attribute [simp] Tryz.underlying148
@[simp] theorem tagg148 : tagg Tryz.prog 148 = some true := by kernel_rfl
@[simp] theorem tsize148 : tsize Tryz.prog 148 = some 4 := by kernel_rfl
@[simp] theorem tbytes148 : tbytes Tryz.prog 148 = some 40 := by kernel_rfl
@[simp] theorem tzero148 : tzero Tryz.prog 148 = some (.agg [.sc (.pointer Option.none), .sc (.pointer Option.none), .sc (.pointer Option.none), .sc (.string ⟨⟨[]⟩⟩)]) := by kernel_rfl
@[simp] theorem fieldAddr148_0 {id off : Nat} : afieldAddr Tryz.prog 148 (.ptr id off) 0 = some (.ptr id (off + 0)) := by simp [afieldAddr, tfield]
@[simp] theorem fieldAddr148_0c {x : AV} {off : Nat} : afieldAddr Tryz.prog 148 (.cptr x off) 0 = some (.cptr x (off + 0)) := by simp [afieldAddr, tfield]
@[simp] theorem fieldAddr148_1 {id off : Nat} : afieldAddr Tryz.prog 148 (.ptr id off) 1 = some (.ptr id (off + 1)) := by simp [afieldAddr, tfield]
@[simp] theorem fieldAddr148_1c {x : AV} {off : Nat} : afieldAddr Tryz.prog 148 (.cptr x off) 1 = some (.cptr x (off + 1)) := by simp [afieldAddr, tfield]
@[simp] theorem fieldAddr148_2 {id off : Nat} : afieldAddr Tryz.prog 148 (.ptr id off) 2 = some (.ptr id (off + 2)) := by simp [afieldAddr, tfield]
@[simp] theorem fieldAddr148_2c {x : AV} {off : Nat} : afieldAddr Tryz.prog 148 (.cptr x off) 2 = some (.cptr x (off + 2)) := by simp [afieldAddr, tfield]
@[simp] theorem fieldAddr148_3 {id off : Nat} : afieldAddr Tryz.prog 148 (.ptr id off) 3 = some (.ptr id (off + 3)) := by simp [afieldAddr, tfield]
@[simp] theorem fieldAddr148_3c {x : AV} {off : Nat} : afieldAddr Tryz.prog 148 (.cptr x off) 3 = some (.cptr x (off + 3)) := by simp [afieldAddr, tfield]
attribute [simp] Tryz.underlying149
@[simp] theorem tagg149 : tagg Tryz.prog 149 = some true := by kernel_rfl
@[simp] theorem tsize149 : tsize Tryz.prog 149 = some 4 := by kernel_rfl
@[simp] theorem tbytes149 : tbytes Tryz.prog 149 = some 40 := by kernel_rfl
@[simp] theorem tzero149 : tzero Tryz.prog 149 = some (.agg [.sc (.pointer Option.none), .sc (.pointer Option.none), .sc (.pointer Option.none), .sc (.string ⟨⟨[]⟩⟩)]) := by kernel_rfl
@[simp] theorem fieldAddr149_0 {id off : Nat} : afieldAddr Tryz.prog 149 (.ptr id off) 0 = some (.ptr id (off + 0)) := by simp [afieldAddr, tfield]
@[simp] theorem fieldAddr149_0c {x : AV} {off : Nat} : afieldAddr Tryz.prog 149 (.cptr x off) 0 = some (.cptr x (off + 0)) := by simp [afieldAddr, tfield]
@[simp] theorem fieldAddr149_1 {id off : Nat} : afieldAddr Tryz.prog 149 (.ptr id off) 1 = some (.ptr id (off + 1)) := by simp [afieldAddr, tfield]
@[simp] theorem fieldAddr149_1c {x : AV} {off : Nat} : afieldAddr Tryz.prog 149 (.cptr x off) 1 = some (.cptr x (off + 1)) := by simp [afieldAddr, tfield]
@[simp] theorem fieldAddr149_2 {id off : Nat} : afieldAddr Tryz.prog 149 (.ptr id off) 2 = some (.ptr id (off + 2)) := by simp [afieldAddr, tfield]
@[simp] theorem fieldAddr149_2c {x : AV} {off : Nat} : afieldAddr Tryz.prog 149 (.cptr x off) 2 = some (.cptr x (off + 2)) := by simp [afieldAddr, tfield]
@[simp] theorem fieldAddr149_3 {id off : Nat} : afieldAddr Tryz.prog 149 (.ptr id off) 3 = some (.ptr id (off + 3)) := by simp [afieldAddr, tfield]
@[simp] theorem fieldAddr149_3c {x : AV} {off : Nat} : afieldAddr Tryz.prog 149 (.cptr x off) 3 = some (.cptr x (off + 3)) := by simp [afieldAddr, tfield]
attribute [simp] Tryz.underlying150
@[simp] theorem tagg150 : tagg Tryz.prog 150 = some true := by kernel_rfl
@[simp] theorem tsize150 : tsize Tryz.prog 150 = some 0 := by kernel_rfl
@[simp] theorem tbytes150 : tbytes Tryz.prog 150 = some 0 := by kernel_rfl
@[simp] theorem tzero150 : tzero Tryz.prog 150 = some (.agg []) := by kernel_rfl
@[simp] theorem tarr150 : tarr Tryz.prog 150 = some (0, 16) := by kernel_rfl
attribute [simp] Tryz.underlying151
@[simp] theorem tagg151 : tagg Tryz.prog 151 = some true := by kernel_rfl
@[simp] theorem tsize151 : tsize Tryz.prog 151 = some 0 := by kernel_rfl
@[simp] theorem tbytes151 : tbytes Tryz.prog 151 = some 0 := by kernel_rfl
@[simp] theorem tzero151 : tzero Tryz.prog 151 = some (.agg []) := by kernel_rfl
attribute [simp] Tryz.underlying152
@[simp] theorem tagg152 : tagg Tryz.prog 152 = some true := by kernel_rfl
@[simp] theorem tsize152 : tsize Tryz.prog 152 = some 0 := by kernel_rfl
@[simp] theorem tbytes152 : tbytes Tryz.prog 152 = some 0 := by kernel_rfl
@[simp] theorem tzero152 : tzero Tryz.prog 152 = some (.agg []) := by kernel_rfl
attribute [simp] Tryz.underlying153
@[simp] theorem tagg153 : tagg Tryz.prog 153 = some false := by kernel_rfl
@[simp] theorem tsize153 : tsize Tryz.prog 153 = some 1 := by kernel_rfl
@[simp] theorem tbytes153 : tbytes Tryz.prog 153 = some 8 := by kernel_rfl
@[simp] theorem tzero153 : tzero Tryz.prog 153 = some (.sc (.nilFunc)) := by kernel_rfl
attribute [simp] Tryz.underlying154
@[simp] theorem tagg154 : tagg Tryz.prog 154 = some false := by kernel_rfl
@[simp] theorem tsize154 : tsize Tryz.prog 154 = some 1 := by kernel_rfl
@[simp] theorem tbytes154 : tbytes Tryz.prog 154 = some 4 := by kernel_rfl
@[simp] theorem tzero154 : tzero Tryz.prog 154 = some (.sc (.int .u32 0)) := by kernel_rfl
attribute [simp] Tryz.underlying155
@[simp] theorem tagg155 : tagg Tryz.prog 155 = some false := by kernel_rfl
@[simp] theorem tsize155 : tsize Tryz.prog 155 = some 1 := by kernel_rfl
@[simp] theorem tbytes155 : tbytes Tryz.prog 155 = some 1 := by kernel_rfl
@[simp] theorem tzero155 : tzero Tryz.prog 155 = some (.sc (.int .u8 0)) := by kernel_rfl
attribute [simp] Tryz.underlying156
@[simp] theorem tagg156 : tagg Tryz.prog 156 = some false := by kernel_rfl
@[simp] theorem tsize156 : tsize Tryz.prog 156 = some 1 := by kernel_rfl
@[simp] theorem tbytes156 : tbytes Tryz.prog 156 = some 1 := by kernel_rfl
@[simp] theorem tzero156 : tzero Tryz.prog 156 = some (.sc (.int .u8 0)) := by kernel_rfl
attribute [simp] Tryz.underlying157
@[simp] theorem tagg157 : tagg Tryz.prog 157 = some false := by kernel_rfl
@[simp] theorem tsize157 : tsize Tryz.prog 157 = some 1 := by kernel_rfl
@[simp] theorem tbytes157 : tbytes Tryz.prog 157 = some 8 := by kernel_rfl
@[simp] theorem tzero157 : tzero Tryz.prog 157 = some (.sc (.nilFunc)) := by kernel_rfl
attribute [simp] Tryz.underlying158
@[simp] theorem tagg158 : tagg Tryz.prog 158 = some false := by kernel_rfl
@[simp] theorem tsize158 : tsize Tryz.prog 158 = some 1 := by kernel_rfl
@[simp] theorem tbytes158 : tbytes Tryz.prog 158 = some 8 := by kernel_rfl
@[simp] theorem tzero158 : tzero Tryz.prog 158 = some (.sc (.pointer Option.none)) := by kernel_rfl
attribute [simp] Tryz.underlying159
@[simp] theorem tagg159 : tagg Tryz.prog 159 = some false := by kernel_rfl
@[simp] theorem tsize159 : tsize Tryz.prog 159 = some 1 := by kernel_rfl
@[simp] theorem tbytes159 : tbytes Tryz.prog 159 = some 4 := by kernel_rfl
@[simp] theorem tzero159 : tzero Tryz.prog 159 = some (.sc (.int .i32 0)) := by kernel_rfl
attribute [simp] Tryz.underlying160
@[simp] theorem tagg160 : tagg Tryz.prog 160 = some false := by kernel_rfl
@[simp] theorem tsize160 : tsize Tryz.prog 160 = some 1 := by kernel_rfl
@[simp] theorem tbytes160 : tbytes Tryz.prog 160 = some 4 := by kernel_rfl
@[simp] theorem tzero160 : tzero Tryz.prog 160 = some (.sc (.int .i32 0)) := by kernel_rfl
attribute [simp] Tryz.underlying161
@[simp] theorem tagg161 : tagg Tryz.prog 161 = some true := by kernel_rfl
@[simp] theorem tsize161 : tsize Tryz.prog 161 = some 11 := by kernel_rfl
@[simp] theorem tbytes161 : tbytes Tryz.prog 161 = some 48 := by kernel_rfl
@[simp] theorem tzero161 : tzero Tryz.prog 161 = some (.agg [.sc (.int .u64 0), .sc (.int .u64 0), .sc (.int .u32 0), .sc (.int .u8 0), .sc (.int .u8 0), .sc (.int .u8 0), .sc (.int .u8 0), .sc (.nilFunc), .sc (.pointer Option.none), .sc (.int .i32 0), .sc (.int .i32 0)]) := by kernel_rfl
@[simp] theorem fieldAddr161_0 {id off : Nat} : afieldAddr Tryz.prog 161 (.ptr id off) 0 = some (.ptr id (off + 0)) := by simp [afieldAddr, tfield]
@[simp] theorem fieldAddr161_0c {x : AV} {off : Nat} : afieldAddr Tryz.prog 161 (.cptr x off) 0 = some (.cptr x (off + 0)) := by simp [afieldAddr, tfield]
@[simp] theorem fieldAddr161_1 {id off : Nat} : afieldAddr Tryz.prog 161 (.ptr id off) 1 = some (.ptr id (off + 1)) := by simp [afieldAddr, tfield]
@[simp] theorem fieldAddr161_1c {x : AV} {off : Nat} : afieldAddr Tryz.prog 161 (.cptr x off) 1 = some (.cptr x (off + 1)) := by simp [afieldAddr, tfield]
@[simp] theorem fieldAddr161_2 {id off : Nat} : afieldAddr Tryz.prog 161 (.ptr id off) 2 = some (.ptr id (off + 2)) := by simp [afieldAddr, tfield]
@[simp] theorem fieldAddr161_2c {x : AV} {off : Nat} : afieldAddr Tryz.prog 161 (.cptr x off) 2 = some (.cptr x (off + 2)) := by simp [afieldAddr, tfield]
@[simp] theorem fieldAddr161_3 {id off : Nat} : afieldAddr Tryz.prog 161 (.ptr id off) 3 = some (.ptr id (off + 3)) := by simp [afieldAddr, tfield]
@[simp] theorem fieldAddr161_3c {x : AV} {off : Nat} : afieldAddr Tryz.prog 161 (.cptr x off) 3 = some (.cptr x (off + 3)) := by simp [afieldAddr, tfield]
@[simp] theorem fieldAddr161_4 {id off : Nat} : afieldAddr Tryz.prog 161 (.ptr id off) 4 = some (.ptr id (off + 4)) := by simp [afieldAddr, tfield]
@[simp] theorem fieldAddr161_4c {x : AV} {off : Nat} : afieldAddr Tryz.prog 161 (.cptr x off) 4 = some (.cptr x (off + 4)) := by simp [afieldAddr, tfield]
@[simp] theorem fieldAddr161_5 {id off : Nat} : afieldAddr Tryz.prog 161 (.ptr id off) 5 = some (.ptr id (off + 5)) := by simp [afieldAddr, tfield]
@[simp] theorem fieldAddr161_5c {x : AV} {off : Nat} : afieldAddr Tryz.prog 161 (.cptr x off) 5 = some (.cptr x (off + 5)) := by simp [afieldAddr, tfield]
@[simp] theorem fieldAddr161_6 {id off : Nat} : afieldAddr Tryz.prog 161 (.ptr id off) 6 = some (.ptr id (off + 6)) := by simp [afieldAddr, tfield]
@[simp] theorem fieldAddr161_6c {x : AV} {off : Nat} : afieldAddr Tryz.prog 161 (.cptr x off) 6 = some (.cptr x (off + 6)) := by simp [afieldAddr, tfield]
@[simp] theorem fieldAddr161_7 {id off : Nat} : afieldAddr Tryz.prog 161 (.ptr id off) 7 = some (.ptr id (off + 7)) := by simp [afieldAddr, tfield]
@[simp] theorem fieldAddr161_7c {x : AV} {off : Nat} : afieldAddr Tryz.prog 161 (.cptr x off) 7 = some (.cptr x (off + 7)) := by simp [afieldAddr, tfield]
@[simp] theorem fieldAddr161_8 {id off : Nat} : afieldAddr Tryz.prog 161 (.ptr id off) 8 = some (.ptr id (off + 8)) := by simp [afieldAddr, tfield]
@[simp] theorem fieldAddr161_8c {x : AV} {off : Nat} : afieldAddr Tryz.prog 161 (.cptr x off) 8 = some (.cptr x (off + 8)) := by simp [afieldAddr, tfield]
@[simp] theorem fieldAddr161_9 {id off : Nat} : afieldAddr Tryz.prog 161 (.ptr id off) 9 = some (.ptr id (off + 9)) := by simp [afieldAddr, tfield]
@[simp] theorem fieldAddr161_9c {x : AV} {off : Nat} : afieldAddr Tryz.prog 161 (.cptr x off) 9 = some (.cptr x (off + 9)) := by simp [afieldAddr, tfield]
@[simp] theorem fieldAddr161_10 {id off : Nat} : afieldAddr Tryz.prog 161 (.ptr id off) 10 = some (.ptr id (off + 10)) := by simp [afieldAddr, tfield]
@[simp] theorem fieldAddr161_10c {x : AV} {off : Nat} : afieldAddr Tryz.prog 161 (.cptr x off) 10 = some (.cptr x (off + 10)) := by simp [afieldAddr, tfield]
attribute [simp] Tryz.underlying162
@[simp] theorem tagg162 : tagg Tryz.prog 162 = some true := by kernel_rfl
@[simp] theorem tsize162 : tsize Tryz.prog 162 = some 11 := by kernel_rfl
@[simp] theorem tbytes162 : tbytes Tryz.prog 162 = some 48 := by kernel_rfl
@[simp] theorem tzero162 : tzero Tryz.prog 162 = some (.agg [.sc (.int .u64 0), .sc (.int .u64 0), .sc (.int .u32 0), .sc (.int .u8 0), .sc (.int .u8 0), .sc (.int .u8 0), .sc (.int .u8 0), .sc (.nilFunc), .sc (.pointer Option.none), .sc (.int .i32 0), .sc (.int .i32 0)]) := by kernel_rfl
@[simp] theorem fieldAddr162_0 {id off : Nat} : afieldAddr Tryz.prog 162 (.ptr id off) 0 = some (.ptr id (off + 0)) := by simp [afieldAddr, tfield]
@[simp] theorem fieldAddr162_0c {x : AV} {off : Nat} : afieldAddr Tryz.prog 162 (.cptr x off) 0 = some (.cptr x (off + 0)) := by simp [afieldAddr, tfield]
@[simp] theorem fieldAddr162_1 {id off : Nat} : afieldAddr Tryz.prog 162 (.ptr id off) 1 = some (.ptr id (off + 1)) := by simp [afieldAddr, tfield]
@[simp] theorem fieldAddr162_1c {x : AV} {off : Nat} : afieldAddr Tryz.prog 162 (.cptr x off) 1 = some (.cptr x (off + 1)) := by simp [afieldAddr, tfield]
@[simp] theorem fieldAddr162_2 {id off : Nat} : afieldAddr Tryz.prog 162 (.ptr id off) 2 = some (.ptr id (off + 2)) := by simp [afieldAddr, tfield]
@[simp] theorem fieldAddr162_2c {x : AV} {off : Nat} : afieldAddr Tryz.prog 162 (.cptr x off) 2 = some (.cptr x (off + 2)) := by simp [afieldAddr, tfield]
@[simp] theorem fieldAddr162_3 {id off : Nat} : afieldAddr Tryz.prog 162 (.ptr id off) 3 = some (.ptr id (off + 3)) := by simp [afieldAddr, tfield]
@[simp] theorem fieldAddr162_3c {x : AV} {off : Nat} : afieldAddr Tryz.prog 162 (.cptr x off) 3 = some (.cptr x (off + 3)) := by simp [afieldAddr, tfield]
@[simp] theorem fieldAddr162_4 {id off : Nat} : afieldAddr Tryz.prog 162 (.ptr id off) 4 = some (.ptr id (off + 4)) := by simp [afieldAddr, tfield]
@[simp] theorem fieldAddr162_4c {x : AV} {off : Nat} : afieldAddr Tryz.prog 162 (.cptr x off) 4 = some (.cptr x (off + 4)) := by simp [afieldAddr, tfield]
@[simp] theorem fieldAddr162_5 {id off : Nat} : afieldAddr Tryz.prog 162 (.ptr id off) 5 = some (.ptr id (off + 5)) := by simp [afieldAddr, tfield]
@[simp] theorem fieldAddr162_5c {x : AV} {off : Nat} : afieldAddr Tryz.prog 162 (.cptr x off) 5 = some (.cptr x (off + 5)) := by simp [afieldAddr, tfield]
@[simp] theorem fieldAddr162_6 {id off : Nat} : afieldAddr Tryz.prog 162 (.ptr id off) 6 = some (.ptr id (off + 6)) := by simp [afieldAddr, tfield]
@[simp] theorem fieldAddr162_6c {x : AV} {off : Nat} : afieldAddr Tryz.prog 162 (.cptr x off) 6 = some (.cptr x (off + 6)) := by simp [afieldAddr, tfield]
@[simp] theorem fieldAddr162_7 {id off : Nat} : afieldAddr Tryz.prog 162 (.ptr id off) 7 = some (.ptr id (off + 7)) := by simp [afieldAddr, tfield]
@[simp] theorem fieldAddr162_7c {x : AV} {off : Nat} : afieldAddr Tryz.prog 162 (.cptr x off) 7 = some (.cptr x (off + 7)) := by simp [afieldAddr, tfield]
@[simp] theorem fieldAddr162_8 {id off : Nat} : afieldAddr Tryz.prog 162 (.ptr id off) 8 = some (.ptr id (off + 8)) := by simp [afieldAddr, tfield]
@[simp] theorem fieldAddr162_8c {x : AV} {off : Nat} : afieldAddr Tryz.prog 162 (.cptr x off) 8 = some (.cptr x (off + 8)) := by simp [afieldAddr, tfield]
@[simp] theorem fieldAddr162_9 {id off : Nat} : afieldAddr Tryz.prog 162 (.ptr id off) 9 = some (.ptr id (off + 9)) := by simp [afieldAddr, tfield]
@[simp] theorem fieldAddr162_9c {x : AV} {off : Nat} : afieldAddr Tryz.prog 162 (.cptr x off) 9 = some (.cptr x (off + 9)) := by simp [afieldAddr, tfield]
@[simp] theorem fieldAddr162_10 {id off : Nat} : afieldAddr Tryz.prog 162 (.ptr id off) 10 = some (.ptr id (off + 10)) := by simp [afieldAddr, tfield]
@[simp] theorem fieldAddr162_10c {x : AV} {off : Nat} : afieldAddr Tryz.prog 162 (.cptr x off) 10 = some (.cptr x (off + 10)) := by simp [afieldAddr, tfield]
theorem el22 : ElemOf Tryz.prog 22 1 false := ⟨⟨3, 8, .sc (.int .i64 0), telem22, tsize3, tbytes3, tzero3, tagg3, by kernel_rfl, by decide, by kernel_rfl⟩, by decide⟩
theorem el23 : ElemOf Tryz.prog 23 6 true := ⟨⟨25, 104, .agg zeroCells, telem23, tsize25, tbytes25, tzero25, tagg25, by kernel_rfl, by decide, by kernel_rfl⟩, by decide⟩
theorem el26 : ElemOf Tryz.prog 26 14 true := ⟨⟨44, 240, .agg [.sc (.int .i64 0), .sc (.int .i64 0), .sc (.string ⟨⟨[]⟩⟩), .emp 0, .emp 0, .emp 0, .sc (.int .i64 0), .sc (.int .i64 0), .sc (.int .i64 0), .sc (.string ⟨⟨[]⟩⟩), .emp 0, .emp 0, .emp 0, .emp 0], telem26, tsize44, tbytes44, tzero44, tagg44, by kernel_rfl, by decide, by kernel_rfl⟩, by decide⟩
theorem el62 : ElemOf Tryz.prog 62 12 true := ⟨⟨39, 208, .agg [.sc (.int .i64 0), .sc (.int .i64 0), .sc (.string ⟨⟨[]⟩⟩), .emp 0, .emp 0, .emp 0, .sc (.int .i64 0), .sc (.int .i64 0), .sc (.string ⟨⟨[]⟩⟩), .emp 0, .emp 0, .emp 0], telem62, tsize39, tbytes39, tzero39, tagg39, by kernel_rfl, by decide, by kernel_rfl⟩, by decide⟩
theorem el73 : ElemOf Tryz.prog 73 7 true := ⟨⟨77, 112, .agg [.sc (.int .i64 0), .sc (.int .i64 0), .sc (.string ⟨⟨[]⟩⟩), .emp 0, .emp 0, .emp 0, .sc (.bool false)], telem73, tsize77, tbytes77, tzero77, tagg77, by kernel_rfl, by decide, by kernel_rfl⟩, by decide⟩
theorem el84 : ElemOf Tryz.prog 84 7 true := ⟨⟨88, 112, .agg [.sc (.int .i64 0), .sc (.int .i64 0), .sc (.int .i64 0), .sc (.string ⟨⟨[]⟩⟩), .emp 0, .emp 0, .emp 0], telem84, tsize88, tbytes88, tzero88, tagg88, by kernel_rfl, by decide, by kernel_rfl⟩, by decide⟩
theorem el104 : ElemOf Tryz.prog 104 1 false := ⟨⟨23, 24, .emp 0, telem104, tsize23, tbytes23, tzero23, tagg23, by kernel_rfl, by decide, by kernel_rfl⟩, by decide⟩
theorem el106 : ElemOf Tryz.prog 106 5 true := ⟨⟨113, 48, .agg [.sc (.int .i64 0), .sc (.int .i64 0), .sc (.int .i64 0), .sc (.int .i64 0), .sc (.string ⟨⟨[]⟩⟩)], telem106, tsize113, tbytes113, tzero113, tagg113, by kernel_rfl, by decide, by kernel_rfl⟩, by decide⟩
theorem el139 : ElemOf Tryz.prog 139 1 false := ⟨⟨5, 1, .sc (.int .u8 0), telem139, tsize5, tbytes5, tzero5, tagg5, by kernel_rfl, by decide, by kernel_rfl⟩, by decide⟩
end Go.Proofs.YtjiijacibpgciaaGreat
