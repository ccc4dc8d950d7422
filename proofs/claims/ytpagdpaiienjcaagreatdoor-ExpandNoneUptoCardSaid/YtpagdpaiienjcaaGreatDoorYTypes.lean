import Derived.Test.YtpagdpaiienjcaaGreatDoorVE
import Derived.Test.YtpagdpaiienjcaaGreatDoorRows
/- What the program's types are, by a program. -/
set_option linter.unusedSimpArgs false
set_option linter.unusedVariables false
set_option linter.unusedSectionVars false
namespace Go.Proofs.YtpagdpaiienjcaaGreatDoor
open Go.V
attribute [simp] fzx_f fzx_t
/-- The zero datum's cells. -/
def zeroCells : List AV := [.sc (.int .i64 0), .sc (.int .i64 0), .sc (.string ⟨⟨[]⟩⟩), .emp 0, .emp 0, .emp 0]
@[simp] theorem zeroCells_length : zeroCells.length = 6 := rfl
@[simp] theorem zeroCells_take : List.take 6 zeroCells = zeroCells := rfl
@[simp] theorem zeroCells_drop : List.drop 6 zeroCells = [] := rfl
@[simp] theorem okc_nilFunc : AV.okc (.sc .nilFunc) = true := Eq.trans rfl rfl
@[simp] theorem cells_nilFunc : AV.cells (.sc .nilFunc) = [.sc .nilFunc] := Eq.trans rfl rfl
@[simp] theorem okc_pointer {x : Option Addr} : AV.okc (.sc (.pointer x)) = true := Eq.trans rfl rfl
@[simp] theorem cells_pointer {x : Option Addr} : AV.cells (.sc (.pointer x)) = [.sc (.pointer x)] := Eq.trans rfl rfl
@[simp] theorem okc_map {x : Option Nat} : AV.okc (.sc (.map x)) = true := Eq.trans rfl rfl
@[simp] theorem cells_map {x : Option Nat} : AV.cells (.sc (.map x)) = [.sc (.map x)] := Eq.trans rfl rfl
@[simp] theorem okc_mp {x : Nat} : AV.okc (.mp x) = true := Eq.trans rfl rfl
@[simp] theorem cells_mp {x : Nat} : AV.cells (.mp x) = [.mp x] := Eq.trans rfl rfl
@[simp] theorem okc_iface {t : TypeId} {x : AV} : AV.okc (.iface t x) = true := Eq.trans rfl rfl
@[simp] theorem cells_iface {t : TypeId} {x : AV} : AV.cells (.iface t x) = [.iface t x] := Eq.trans rfl rfl
@[simp] theorem okc_nilIface : AV.okc (.sc .nilIface) = true := Eq.trans rfl rfl
@[simp] theorem cells_nilIface : AV.cells (.sc .nilIface) = [.sc .nilIface] := Eq.trans rfl rfl
attribute [simp] Tryz.underlying1
@[simp] theorem tagg1 : tagg Tryz.prog 1 = some false := by kernel_rfl
@[simp] theorem tsize1 : tsize Tryz.prog 1 = some 1 := by kernel_rfl
@[simp] theorem tbytes1 : tbytes Tryz.prog 1 = some 8 := by kernel_rfl
@[simp] theorem tzero1 : tzero Tryz.prog 1 = some (.sc (.nilFunc)) := by kernel_rfl
attribute [simp] Tryz.underlying2
@[simp] theorem tagg2 : tagg Tryz.prog 2 = some false := by kernel_rfl
@[simp] theorem tsize2 : tsize Tryz.prog 2 = some 1 := by kernel_rfl
@[simp] theorem tbytes2 : tbytes Tryz.prog 2 = some 8 := by kernel_rfl
@[simp] theorem tzero2 : tzero Tryz.prog 2 = some (.sc (.int .i64 0)) := by kernel_rfl
attribute [simp] Tryz.underlying3
@[simp] theorem tagg3 : tagg Tryz.prog 3 = some false := by kernel_rfl
@[simp] theorem tsize3 : tsize Tryz.prog 3 = some 1 := by kernel_rfl
@[simp] theorem tbytes3 : tbytes Tryz.prog 3 = some 8 := by kernel_rfl
@[simp] theorem tzero3 : tzero Tryz.prog 3 = some (.sc (.int .i64 0)) := by kernel_rfl
attribute [simp] Tryz.underlying4
@[simp] theorem tagg4 : tagg Tryz.prog 4 = some false := by kernel_rfl
@[simp] theorem tsize4 : tsize Tryz.prog 4 = some 1 := by kernel_rfl
@[simp] theorem tbytes4 : tbytes Tryz.prog 4 = some 1 := by kernel_rfl
@[simp] theorem tzero4 : tzero Tryz.prog 4 = some (.sc (.bool false)) := by kernel_rfl
attribute [simp] Tryz.underlying5
@[simp] theorem tagg5 : tagg Tryz.prog 5 = some false := by kernel_rfl
@[simp] theorem tsize5 : tsize Tryz.prog 5 = some 1 := by kernel_rfl
@[simp] theorem tbytes5 : tbytes Tryz.prog 5 = some 1 := by kernel_rfl
@[simp] theorem tzero5 : tzero Tryz.prog 5 = some (.sc (.int .u8 0)) := by kernel_rfl
attribute [simp] Tryz.underlying6
@[simp] theorem tagg6 : tagg Tryz.prog 6 = some false := by kernel_rfl
@[simp] theorem tsize6 : tsize Tryz.prog 6 = some 1 := by kernel_rfl
@[simp] theorem tbytes6 : tbytes Tryz.prog 6 = some 1 := by kernel_rfl
@[simp] theorem tzero6 : tzero Tryz.prog 6 = some (.sc (.int .u8 0)) := by kernel_rfl
attribute [simp] Tryz.underlying7
@[simp] theorem tagg7 : tagg Tryz.prog 7 = some true := by kernel_rfl
@[simp] theorem tsize7 : tsize Tryz.prog 7 = some 4 := by kernel_rfl
@[simp] theorem tbytes7 : tbytes Tryz.prog 7 = some 24 := by kernel_rfl
@[simp] theorem tzero7 : tzero Tryz.prog 7 = some (.agg [.sc (.int .i64 0), .sc (.int .i64 0), .sc (.bool false), .sc (.int .u8 0)]) := by kernel_rfl
@[simp] theorem fieldAddr7_0 {id off : Nat} : afieldAddr Tryz.prog 7 (.ptr id off) 0 = some (.ptr id (off + 0)) := by simp [afieldAddr, tfield]
@[simp] theorem fieldAddr7_0c {x : AV} {off : Nat} : afieldAddr Tryz.prog 7 (.cptr x off) 0 = some (.cptr x (off + 0)) := by simp [afieldAddr, tfield]
@[simp] theorem fieldAddr7_1 {id off : Nat} : afieldAddr Tryz.prog 7 (.ptr id off) 1 = some (.ptr id (off + 1)) := by simp [afieldAddr, tfield]
@[simp] theorem fieldAddr7_1c {x : AV} {off : Nat} : afieldAddr Tryz.prog 7 (.cptr x off) 1 = some (.cptr x (off + 1)) := by simp [afieldAddr, tfield]
@[simp] theorem fieldAddr7_2 {id off : Nat} : afieldAddr Tryz.prog 7 (.ptr id off) 2 = some (.ptr id (off + 2)) := by simp [afieldAddr, tfield]
@[simp] theorem fieldAddr7_2c {x : AV} {off : Nat} : afieldAddr Tryz.prog 7 (.cptr x off) 2 = some (.cptr x (off + 2)) := by simp [afieldAddr, tfield]
@[simp] theorem fieldAddr7_3 {id off : Nat} : afieldAddr Tryz.prog 7 (.ptr id off) 3 = some (.ptr id (off + 3)) := by simp [afieldAddr, tfield]
@[simp] theorem fieldAddr7_3c {x : AV} {off : Nat} : afieldAddr Tryz.prog 7 (.cptr x off) 3 = some (.cptr x (off + 3)) := by simp [afieldAddr, tfield]
attribute [simp] Tryz.underlying8
@[simp] theorem tagg8 : tagg Tryz.prog 8 = some true := by kernel_rfl
@[simp] theorem tsize8 : tsize Tryz.prog 8 = some 4 := by kernel_rfl
@[simp] theorem tbytes8 : tbytes Tryz.prog 8 = some 24 := by kernel_rfl
@[simp] theorem tzero8 : tzero Tryz.prog 8 = some (.agg [.sc (.int .i64 0), .sc (.int .i64 0), .sc (.bool false), .sc (.int .u8 0)]) := by kernel_rfl
@[simp] theorem fieldAddr8_0 {id off : Nat} : afieldAddr Tryz.prog 8 (.ptr id off) 0 = some (.ptr id (off + 0)) := by simp [afieldAddr, tfield]
@[simp] theorem fieldAddr8_0c {x : AV} {off : Nat} : afieldAddr Tryz.prog 8 (.cptr x off) 0 = some (.cptr x (off + 0)) := by simp [afieldAddr, tfield]
@[simp] theorem fieldAddr8_1 {id off : Nat} : afieldAddr Tryz.prog 8 (.ptr id off) 1 = some (.ptr id (off + 1)) := by simp [afieldAddr, tfield]
@[simp] theorem fieldAddr8_1c {x : AV} {off : Nat} : afieldAddr Tryz.prog 8 (.cptr x off) 1 = some (.cptr x (off + 1)) := by simp [afieldAddr, tfield]
@[simp] theorem fieldAddr8_2 {id off : Nat} : afieldAddr Tryz.prog 8 (.ptr id off) 2 = some (.ptr id (off + 2)) := by simp [afieldAddr, tfield]
@[simp] theorem fieldAddr8_2c {x : AV} {off : Nat} : afieldAddr Tryz.prog 8 (.cptr x off) 2 = some (.cptr x (off + 2)) := by simp [afieldAddr, tfield]
@[simp] theorem fieldAddr8_3 {id off : Nat} : afieldAddr Tryz.prog 8 (.ptr id off) 3 = some (.ptr id (off + 3)) := by simp [afieldAddr, tfield]
@[simp] theorem fieldAddr8_3c {x : AV} {off : Nat} : afieldAddr Tryz.prog 8 (.cptr x off) 3 = some (.cptr x (off + 3)) := by simp [afieldAddr, tfield]
attribute [simp] Tryz.underlying9
@[simp] theorem tagg9 : tagg Tryz.prog 9 = some false := by kernel_rfl
@[simp] theorem tsize9 : tsize Tryz.prog 9 = some 1 := by kernel_rfl
@[simp] theorem tbytes9 : tbytes Tryz.prog 9 = some 16 := by kernel_rfl
@[simp] theorem tzero9 : tzero Tryz.prog 9 = some (.sc (.string ⟨⟨[]⟩⟩)) := by kernel_rfl
attribute [simp] Tryz.underlying10
@[simp] theorem tagg10 : tagg Tryz.prog 10 = some false := by kernel_rfl
@[simp] theorem tsize10 : tsize Tryz.prog 10 = some 1 := by kernel_rfl
@[simp] theorem tbytes10 : tbytes Tryz.prog 10 = some 16 := by kernel_rfl
@[simp] theorem tzero10 : tzero Tryz.prog 10 = some (.sc (.string ⟨⟨[]⟩⟩)) := by kernel_rfl
attribute [simp] Tryz.underlying11
@[simp] theorem tagg11 : tagg Tryz.prog 11 = some false := by kernel_rfl
@[simp] theorem tsize11 : tsize Tryz.prog 11 = some 1 := by kernel_rfl
@[simp] theorem tbytes11 : tbytes Tryz.prog 11 = some 16 := by kernel_rfl
@[simp] theorem tzero11 : tzero Tryz.prog 11 = some (.sc (.string ⟨⟨[]⟩⟩)) := by kernel_rfl
attribute [simp] Tryz.underlying12
@[simp] theorem tagg12 : tagg Tryz.prog 12 = some false := by kernel_rfl
@[simp] theorem tsize12 : tsize Tryz.prog 12 = some 1 := by kernel_rfl
@[simp] theorem tbytes12 : tbytes Tryz.prog 12 = some 8 := by kernel_rfl
@[simp] theorem tzero12 : tzero Tryz.prog 12 = some (.sc (.int .u64 0)) := by kernel_rfl
attribute [simp] Tryz.underlying13
@[simp] theorem tagg13 : tagg Tryz.prog 13 = some true := by kernel_rfl
@[simp] theorem tsize13 : tsize Tryz.prog 13 = some 2 := by kernel_rfl
@[simp] theorem tbytes13 : tbytes Tryz.prog 13 = some 24 := by kernel_rfl
@[simp] theorem tzero13 : tzero Tryz.prog 13 = some (.agg [.sc (.string ⟨⟨[]⟩⟩), .sc (.int .u64 0)]) := by kernel_rfl
@[simp] theorem fieldAddr13_0 {id off : Nat} : afieldAddr Tryz.prog 13 (.ptr id off) 0 = some (.ptr id (off + 0)) := by simp [afieldAddr, tfield]
@[simp] theorem fieldAddr13_0c {x : AV} {off : Nat} : afieldAddr Tryz.prog 13 (.cptr x off) 0 = some (.cptr x (off + 0)) := by simp [afieldAddr, tfield]
@[simp] theorem fieldAddr13_1 {id off : Nat} : afieldAddr Tryz.prog 13 (.ptr id off) 1 = some (.ptr id (off + 1)) := by simp [afieldAddr, tfield]
@[simp] theorem fieldAddr13_1c {x : AV} {off : Nat} : afieldAddr Tryz.prog 13 (.cptr x off) 1 = some (.cptr x (off + 1)) := by simp [afieldAddr, tfield]
attribute [simp] Tryz.underlying14
@[simp] theorem tagg14 : tagg Tryz.prog 14 = some true := by kernel_rfl
@[simp] theorem tsize14 : tsize Tryz.prog 14 = some 2 := by kernel_rfl
@[simp] theorem tbytes14 : tbytes Tryz.prog 14 = some 24 := by kernel_rfl
@[simp] theorem tzero14 : tzero Tryz.prog 14 = some (.agg [.sc (.string ⟨⟨[]⟩⟩), .sc (.int .u64 0)]) := by kernel_rfl
@[simp] theorem fieldAddr14_0 {id off : Nat} : afieldAddr Tryz.prog 14 (.ptr id off) 0 = some (.ptr id (off + 0)) := by simp [afieldAddr, tfield]
@[simp] theorem fieldAddr14_0c {x : AV} {off : Nat} : afieldAddr Tryz.prog 14 (.cptr x off) 0 = some (.cptr x (off + 0)) := by simp [afieldAddr, tfield]
@[simp] theorem fieldAddr14_1 {id off : Nat} : afieldAddr Tryz.prog 14 (.ptr id off) 1 = some (.ptr id (off + 1)) := by simp [afieldAddr, tfield]
@[simp] theorem fieldAddr14_1c {x : AV} {off : Nat} : afieldAddr Tryz.prog 14 (.cptr x off) 1 = some (.cptr x (off + 1)) := by simp [afieldAddr, tfield]
attribute [simp] Tryz.underlying15
@[simp] theorem tagg15 : tagg Tryz.prog 15 = some false := by kernel_rfl
@[simp] theorem tsize15 : tsize Tryz.prog 15 = some 1 := by kernel_rfl
@[simp] theorem tbytes15 : tbytes Tryz.prog 15 = some 8 := by kernel_rfl
@[simp] theorem tzero15 : tzero Tryz.prog 15 = some (.sc (.pointer Option.none)) := by kernel_rfl
attribute [simp] Tryz.underlying16
@[simp] theorem tagg16 : tagg Tryz.prog 16 = some false := by kernel_rfl
@[simp] theorem tsize16 : tsize Tryz.prog 16 = some 1 := by kernel_rfl
@[simp] theorem tbytes16 : tbytes Tryz.prog 16 = some 8 := by kernel_rfl
@[simp] theorem tzero16 : tzero Tryz.prog 16 = some (.sc (.pointer Option.none)) := by kernel_rfl
attribute [simp] Tryz.underlying17
@[simp] theorem tagg17 : tagg Tryz.prog 17 = some false := by kernel_rfl
@[simp] theorem tsize17 : tsize Tryz.prog 17 = some 1 := by kernel_rfl
@[simp] theorem tbytes17 : tbytes Tryz.prog 17 = some 8 := by kernel_rfl
@[simp] theorem tzero17 : tzero Tryz.prog 17 = some (.sc (.pointer Option.none)) := by kernel_rfl
attribute [simp] Tryz.underlying18
@[simp] theorem tagg18 : tagg Tryz.prog 18 = some true := by kernel_rfl
@[simp] theorem tsize18 : tsize Tryz.prog 18 = some 1 := by kernel_rfl
@[simp] theorem tbytes18 : tbytes Tryz.prog 18 = some 8 := by kernel_rfl
@[simp] theorem tzero18 : tzero Tryz.prog 18 = some (.agg [.sc (.pointer Option.none)]) := by kernel_rfl
@[simp] theorem fieldAddr18_0 {id off : Nat} : afieldAddr Tryz.prog 18 (.ptr id off) 0 = some (.ptr id (off + 0)) := by simp [afieldAddr, tfield]
@[simp] theorem fieldAddr18_0c {x : AV} {off : Nat} : afieldAddr Tryz.prog 18 (.cptr x off) 0 = some (.cptr x (off + 0)) := by simp [afieldAddr, tfield]
attribute [simp] Tryz.underlying19
@[simp] theorem tagg19 : tagg Tryz.prog 19 = some true := by kernel_rfl
@[simp] theorem tsize19 : tsize Tryz.prog 19 = some 1 := by kernel_rfl
@[simp] theorem tbytes19 : tbytes Tryz.prog 19 = some 8 := by kernel_rfl
@[simp] theorem tzero19 : tzero Tryz.prog 19 = some (.agg [.sc (.pointer Option.none)]) := by kernel_rfl
@[simp] theorem fieldAddr19_0 {id off : Nat} : afieldAddr Tryz.prog 19 (.ptr id off) 0 = some (.ptr id (off + 0)) := by simp [afieldAddr, tfield]
@[simp] theorem fieldAddr19_0c {x : AV} {off : Nat} : afieldAddr Tryz.prog 19 (.cptr x off) 0 = some (.cptr x (off + 0)) := by simp [afieldAddr, tfield]
attribute [simp] Tryz.underlying20
@[simp] theorem tagg20 : tagg Tryz.prog 20 = some false := by kernel_rfl
@[simp] theorem tsize20 : tsize Tryz.prog 20 = some 1 := by kernel_rfl
@[simp] theorem tbytes20 : tbytes Tryz.prog 20 = some 16 := by kernel_rfl
@[simp] theorem tzero20 : tzero Tryz.prog 20 = some (.sc (.nilIface)) := by kernel_rfl
attribute [simp] Tryz.underlying21
@[simp] theorem tagg21 : tagg Tryz.prog 21 = some false := by kernel_rfl
@[simp] theorem tsize21 : tsize Tryz.prog 21 = some 1 := by kernel_rfl
@[simp] theorem tbytes21 : tbytes Tryz.prog 21 = some 4 := by kernel_rfl
@[simp] theorem tzero21 : tzero Tryz.prog 21 = some (.sc (.int .i32 0)) := by kernel_rfl
attribute [simp] Tryz.underlying22
@[simp] theorem tagg22 : tagg Tryz.prog 22 = some false := by kernel_rfl
@[simp] theorem tsize22 : tsize Tryz.prog 22 = some 1 := by kernel_rfl
@[simp] theorem tbytes22 : tbytes Tryz.prog 22 = some 24 := by kernel_rfl
@[simp] theorem tzero22 : tzero Tryz.prog 22 = some (.emp 0) := by kernel_rfl
@[simp] theorem telem22 : telem Tryz.prog 22 = some 3 := by kernel_rfl
@[simp] theorem nofz22 : nofz Tryz.prog 22 = false := by kernel_rfl
attribute [simp] Tryz.underlying23
@[simp] theorem tagg23 : tagg Tryz.prog 23 = some false := by kernel_rfl
@[simp] theorem tsize23 : tsize Tryz.prog 23 = some 1 := by kernel_rfl
@[simp] theorem tbytes23 : tbytes Tryz.prog 23 = some 24 := by kernel_rfl
@[simp] theorem tzero23 : tzero Tryz.prog 23 = some (.emp 0) := by kernel_rfl
@[simp] theorem telem23 : telem Tryz.prog 23 = some 25 := by kernel_rfl
@[simp] theorem nofz23 : nofz Tryz.prog 23 = false := by kernel_rfl
attribute [simp] Tryz.underlying24
@[simp] theorem tagg24 : tagg Tryz.prog 24 = some true := by kernel_rfl
@[simp] theorem tsize24 : tsize Tryz.prog 24 = some 6 := by kernel_rfl
@[simp] theorem tbytes24 : tbytes Tryz.prog 24 = some 104 := by kernel_rfl
@[simp] theorem tzero24 : tzero Tryz.prog 24 = some (.agg [.sc (.int .i64 0), .sc (.int .i64 0), .sc (.string ⟨⟨[]⟩⟩), .emp 0, .emp 0, .emp 0]) := by kernel_rfl
@[simp] theorem fieldAddr24_0 {id off : Nat} : afieldAddr Tryz.prog 24 (.ptr id off) 0 = some (.ptr id (off + 0)) := by simp [afieldAddr, tfield]
@[simp] theorem fieldAddr24_0c {x : AV} {off : Nat} : afieldAddr Tryz.prog 24 (.cptr x off) 0 = some (.cptr x (off + 0)) := by simp [afieldAddr, tfield]
@[simp] theorem fieldAddr24_1 {id off : Nat} : afieldAddr Tryz.prog 24 (.ptr id off) 1 = some (.ptr id (off + 1)) := by simp [afieldAddr, tfield]
@[simp] theorem fieldAddr24_1c {x : AV} {off : Nat} : afieldAddr Tryz.prog 24 (.cptr x off) 1 = some (.cptr x (off + 1)) := by simp [afieldAddr, tfield]
@[simp] theorem fieldAddr24_2 {id off : Nat} : afieldAddr Tryz.prog 24 (.ptr id off) 2 = some (.ptr id (off + 2)) := by simp [afieldAddr, tfield]
@[simp] theorem fieldAddr24_2c {x : AV} {off : Nat} : afieldAddr Tryz.prog 24 (.cptr x off) 2 = some (.cptr x (off + 2)) := by simp [afieldAddr, tfield]
@[simp] theorem fieldAddr24_3 {id off : Nat} : afieldAddr Tryz.prog 24 (.ptr id off) 3 = some (.ptr id (off + 3)) := by simp [afieldAddr, tfield]
@[simp] theorem fieldAddr24_3c {x : AV} {off : Nat} : afieldAddr Tryz.prog 24 (.cptr x off) 3 = some (.cptr x (off + 3)) := by simp [afieldAddr, tfield]
@[simp] theorem fieldAddr24_4 {id off : Nat} : afieldAddr Tryz.prog 24 (.ptr id off) 4 = some (.ptr id (off + 4)) := by simp [afieldAddr, tfield]
@[simp] theorem fieldAddr24_4c {x : AV} {off : Nat} : afieldAddr Tryz.prog 24 (.cptr x off) 4 = some (.cptr x (off + 4)) := by simp [afieldAddr, tfield]
@[simp] theorem fieldAddr24_5 {id off : Nat} : afieldAddr Tryz.prog 24 (.ptr id off) 5 = some (.ptr id (off + 5)) := by simp [afieldAddr, tfield]
@[simp] theorem fieldAddr24_5c {x : AV} {off : Nat} : afieldAddr Tryz.prog 24 (.cptr x off) 5 = some (.cptr x (off + 5)) := by simp [afieldAddr, tfield]
attribute [simp] Tryz.underlying25
@[simp] theorem tagg25 : tagg Tryz.prog 25 = some true := by kernel_rfl
@[simp] theorem tsize25 : tsize Tryz.prog 25 = some 6 := by kernel_rfl
@[simp] theorem tbytes25 : tbytes Tryz.prog 25 = some 104 := by kernel_rfl
@[simp] theorem tzero25 : tzero Tryz.prog 25 = some (.agg zeroCells) := by kernel_rfl
@[simp] theorem fieldAddr25_0 {id off : Nat} : afieldAddr Tryz.prog 25 (.ptr id off) 0 = some (.ptr id (off + 0)) := by simp [afieldAddr, tfield]
@[simp] theorem fieldAddr25_0c {x : AV} {off : Nat} : afieldAddr Tryz.prog 25 (.cptr x off) 0 = some (.cptr x (off + 0)) := by simp [afieldAddr, tfield]
@[simp] theorem fieldAddr25_1 {id off : Nat} : afieldAddr Tryz.prog 25 (.ptr id off) 1 = some (.ptr id (off + 1)) := by simp [afieldAddr, tfield]
@[simp] theorem fieldAddr25_1c {x : AV} {off : Nat} : afieldAddr Tryz.prog 25 (.cptr x off) 1 = some (.cptr x (off + 1)) := by simp [afieldAddr, tfield]
@[simp] theorem fieldAddr25_2 {id off : Nat} : afieldAddr Tryz.prog 25 (.ptr id off) 2 = some (.ptr id (off + 2)) := by simp [afieldAddr, tfield]
@[simp] theorem fieldAddr25_2c {x : AV} {off : Nat} : afieldAddr Tryz.prog 25 (.cptr x off) 2 = some (.cptr x (off + 2)) := by simp [afieldAddr, tfield]
@[simp] theorem fieldAddr25_3 {id off : Nat} : afieldAddr Tryz.prog 25 (.ptr id off) 3 = some (.ptr id (off + 3)) := by simp [afieldAddr, tfield]
@[simp] theorem fieldAddr25_3c {x : AV} {off : Nat} : afieldAddr Tryz.prog 25 (.cptr x off) 3 = some (.cptr x (off + 3)) := by simp [afieldAddr, tfield]
@[simp] theorem fieldAddr25_4 {id off : Nat} : afieldAddr Tryz.prog 25 (.ptr id off) 4 = some (.ptr id (off + 4)) := by simp [afieldAddr, tfield]
@[simp] theorem fieldAddr25_4c {x : AV} {off : Nat} : afieldAddr Tryz.prog 25 (.cptr x off) 4 = some (.cptr x (off + 4)) := by simp [afieldAddr, tfield]
@[simp] theorem fieldAddr25_5 {id off : Nat} : afieldAddr Tryz.prog 25 (.ptr id off) 5 = some (.ptr id (off + 5)) := by simp [afieldAddr, tfield]
@[simp] theorem fieldAddr25_5c {x : AV} {off : Nat} : afieldAddr Tryz.prog 25 (.cptr x off) 5 = some (.cptr x (off + 5)) := by simp [afieldAddr, tfield]
attribute [simp] Tryz.underlying26
@[simp] theorem tagg26 : tagg Tryz.prog 26 = some false := by kernel_rfl
@[simp] theorem tsize26 : tsize Tryz.prog 26 = some 1 := by kernel_rfl
@[simp] theorem tbytes26 : tbytes Tryz.prog 26 = some 8 := by kernel_rfl
@[simp] theorem tzero26 : tzero Tryz.prog 26 = some (.sc (.nilFunc)) := by kernel_rfl
attribute [simp] Tryz.underlying27
@[simp] theorem tagg27 : tagg Tryz.prog 27 = some false := by kernel_rfl
@[simp] theorem tsize27 : tsize Tryz.prog 27 = some 1 := by kernel_rfl
@[simp] theorem tbytes27 : tbytes Tryz.prog 27 = some 8 := by kernel_rfl
@[simp] theorem tzero27 : tzero Tryz.prog 27 = some (.sc (.nilFunc)) := by kernel_rfl
attribute [simp] Tryz.underlying28
@[simp] theorem tagg28 : tagg Tryz.prog 28 = some false := by kernel_rfl
@[simp] theorem tsize28 : tsize Tryz.prog 28 = some 1 := by kernel_rfl
@[simp] theorem tbytes28 : tbytes Tryz.prog 28 = some 8 := by kernel_rfl
@[simp] theorem tzero28 : tzero Tryz.prog 28 = some (.sc (.pointer Option.none)) := by kernel_rfl
attribute [simp] Tryz.underlying29
@[simp] theorem tagg29 : tagg Tryz.prog 29 = some false := by kernel_rfl
@[simp] theorem tsize29 : tsize Tryz.prog 29 = some 1 := by kernel_rfl
@[simp] theorem tbytes29 : tbytes Tryz.prog 29 = some 8 := by kernel_rfl
@[simp] theorem tzero29 : tzero Tryz.prog 29 = some (.sc (.pointer Option.none)) := by kernel_rfl
attribute [simp] Tryz.underlying30
@[simp] theorem tagg30 : tagg Tryz.prog 30 = some false := by kernel_rfl
@[simp] theorem tsize30 : tsize Tryz.prog 30 = some 1 := by kernel_rfl
@[simp] theorem tbytes30 : tbytes Tryz.prog 30 = some 24 := by kernel_rfl
@[simp] theorem tzero30 : tzero Tryz.prog 30 = some (.emp 0) := by kernel_rfl
@[simp] theorem telem30 : telem Tryz.prog 30 = some 71 := by kernel_rfl
@[simp] theorem nofz30 : nofz Tryz.prog 30 = false := by kernel_rfl
attribute [simp] Tryz.underlying31
@[simp] theorem tagg31 : tagg Tryz.prog 31 = some false := by kernel_rfl
@[simp] theorem tsize31 : tsize Tryz.prog 31 = some 1 := by kernel_rfl
@[simp] theorem tbytes31 : tbytes Tryz.prog 31 = some 8 := by kernel_rfl
@[simp] theorem tzero31 : tzero Tryz.prog 31 = some (.sc (.map Option.none)) := by kernel_rfl
@[simp] theorem tmap31 : tmap Tryz.prog 31 = some (9, 3) := by kernel_rfl
attribute [simp] Tryz.underlying32
@[simp] theorem tagg32 : tagg Tryz.prog 32 = some true := by kernel_rfl
@[simp] theorem tsize32 : tsize Tryz.prog 32 = some 4 := by kernel_rfl
@[simp] theorem tbytes32 : tbytes Tryz.prog 32 = some 48 := by kernel_rfl
@[simp] theorem tzero32 : tzero Tryz.prog 32 = some (.agg [.sc (.pointer Option.none), .emp 0, .sc (.map Option.none), .sc (.int .i64 0)]) := by kernel_rfl
@[simp] theorem fieldAddr32_0 {id off : Nat} : afieldAddr Tryz.prog 32 (.ptr id off) 0 = some (.ptr id (off + 0)) := by simp [afieldAddr, tfield]
@[simp] theorem fieldAddr32_0c {x : AV} {off : Nat} : afieldAddr Tryz.prog 32 (.cptr x off) 0 = some (.cptr x (off + 0)) := by simp [afieldAddr, tfield]
@[simp] theorem fieldAddr32_1 {id off : Nat} : afieldAddr Tryz.prog 32 (.ptr id off) 1 = some (.ptr id (off + 1)) := by simp [afieldAddr, tfield]
@[simp] theorem fieldAddr32_1c {x : AV} {off : Nat} : afieldAddr Tryz.prog 32 (.cptr x off) 1 = some (.cptr x (off + 1)) := by simp [afieldAddr, tfield]
@[simp] theorem fieldAddr32_2 {id off : Nat} : afieldAddr Tryz.prog 32 (.ptr id off) 2 = some (.ptr id (off + 2)) := by simp [afieldAddr, tfield]
@[simp] theorem fieldAddr32_2c {x : AV} {off : Nat} : afieldAddr Tryz.prog 32 (.cptr x off) 2 = some (.cptr x (off + 2)) := by simp [afieldAddr, tfield]
@[simp] theorem fieldAddr32_3 {id off : Nat} : afieldAddr Tryz.prog 32 (.ptr id off) 3 = some (.ptr id (off + 3)) := by simp [afieldAddr, tfield]
@[simp] theorem fieldAddr32_3c {x : AV} {off : Nat} : afieldAddr Tryz.prog 32 (.cptr x off) 3 = some (.cptr x (off + 3)) := by simp [afieldAddr, tfield]
attribute [simp] Tryz.underlying33
@[simp] theorem tagg33 : tagg Tryz.prog 33 = some true := by kernel_rfl
@[simp] theorem tsize33 : tsize Tryz.prog 33 = some 4 := by kernel_rfl
@[simp] theorem tbytes33 : tbytes Tryz.prog 33 = some 48 := by kernel_rfl
@[simp] theorem tzero33 : tzero Tryz.prog 33 = some (.agg [.sc (.pointer Option.none), .emp 0, .sc (.map Option.none), .sc (.int .i64 0)]) := by kernel_rfl
@[simp] theorem fieldAddr33_0 {id off : Nat} : afieldAddr Tryz.prog 33 (.ptr id off) 0 = some (.ptr id (off + 0)) := by simp [afieldAddr, tfield]
@[simp] theorem fieldAddr33_0c {x : AV} {off : Nat} : afieldAddr Tryz.prog 33 (.cptr x off) 0 = some (.cptr x (off + 0)) := by simp [afieldAddr, tfield]
@[simp] theorem fieldAddr33_1 {id off : Nat} : afieldAddr Tryz.prog 33 (.ptr id off) 1 = some (.ptr id (off + 1)) := by simp [afieldAddr, tfield]
@[simp] theorem fieldAddr33_1c {x : AV} {off : Nat} : afieldAddr Tryz.prog 33 (.cptr x off) 1 = some (.cptr x (off + 1)) := by simp [afieldAddr, tfield]
@[simp] theorem fieldAddr33_2 {id off : Nat} : afieldAddr Tryz.prog 33 (.ptr id off) 2 = some (.ptr id (off + 2)) := by simp [afieldAddr, tfield]
@[simp] theorem fieldAddr33_2c {x : AV} {off : Nat} : afieldAddr Tryz.prog 33 (.cptr x off) 2 = some (.cptr x (off + 2)) := by simp [afieldAddr, tfield]
@[simp] theorem fieldAddr33_3 {id off : Nat} : afieldAddr Tryz.prog 33 (.ptr id off) 3 = some (.ptr id (off + 3)) := by simp [afieldAddr, tfield]
@[simp] theorem fieldAddr33_3c {x : AV} {off : Nat} : afieldAddr Tryz.prog 33 (.cptr x off) 3 = some (.cptr x (off + 3)) := by simp [afieldAddr, tfield]
attribute [simp] Tryz.underlying34
@[simp] theorem tagg34 : tagg Tryz.prog 34 = some false := by kernel_rfl
@[simp] theorem tsize34 : tsize Tryz.prog 34 = some 1 := by kernel_rfl
@[simp] theorem tbytes34 : tbytes Tryz.prog 34 = some 24 := by kernel_rfl
@[simp] theorem tzero34 : tzero Tryz.prog 34 = some (.emp 0) := by kernel_rfl
@[simp] theorem telem34 : telem Tryz.prog 34 = some 28 := by kernel_rfl
@[simp] theorem nofz34 : nofz Tryz.prog 34 = false := by kernel_rfl
attribute [simp] Tryz.underlying35
@[simp] theorem tagg35 : tagg Tryz.prog 35 = some false := by kernel_rfl
@[simp] theorem tsize35 : tsize Tryz.prog 35 = some 1 := by kernel_rfl
@[simp] theorem tbytes35 : tbytes Tryz.prog 35 = some 24 := by kernel_rfl
@[simp] theorem tzero35 : tzero Tryz.prog 35 = some (.emp 0) := by kernel_rfl
@[simp] theorem telem35 : telem Tryz.prog 35 = some 37 := by kernel_rfl
@[simp] theorem nofz35 : nofz Tryz.prog 35 = false := by kernel_rfl
attribute [simp] Tryz.underlying36
@[simp] theorem tagg36 : tagg Tryz.prog 36 = some true := by kernel_rfl
@[simp] theorem tsize36 : tsize Tryz.prog 36 = some 11 := by kernel_rfl
@[simp] theorem tbytes36 : tbytes Tryz.prog 36 = some 184 := by kernel_rfl
@[simp] theorem tzero36 : tzero Tryz.prog 36 = some (.agg [.sc (.int .i64 0), .sc (.int .i64 0), .sc (.string ⟨⟨[]⟩⟩), .sc (.int .i64 0), .sc (.int .i64 0), .sc (.string ⟨⟨[]⟩⟩), .emp 0, .emp 0, .emp 0, .emp 0, .emp 0]) := by kernel_rfl
@[simp] theorem fieldAddr36_0 {id off : Nat} : afieldAddr Tryz.prog 36 (.ptr id off) 0 = some (.ptr id (off + 0)) := by simp [afieldAddr, tfield]
@[simp] theorem fieldAddr36_0c {x : AV} {off : Nat} : afieldAddr Tryz.prog 36 (.cptr x off) 0 = some (.cptr x (off + 0)) := by simp [afieldAddr, tfield]
@[simp] theorem fieldAddr36_1 {id off : Nat} : afieldAddr Tryz.prog 36 (.ptr id off) 1 = some (.ptr id (off + 1)) := by simp [afieldAddr, tfield]
@[simp] theorem fieldAddr36_1c {x : AV} {off : Nat} : afieldAddr Tryz.prog 36 (.cptr x off) 1 = some (.cptr x (off + 1)) := by simp [afieldAddr, tfield]
@[simp] theorem fieldAddr36_2 {id off : Nat} : afieldAddr Tryz.prog 36 (.ptr id off) 2 = some (.ptr id (off + 2)) := by simp [afieldAddr, tfield]
@[simp] theorem fieldAddr36_2c {x : AV} {off : Nat} : afieldAddr Tryz.prog 36 (.cptr x off) 2 = some (.cptr x (off + 2)) := by simp [afieldAddr, tfield]
@[simp] theorem fieldAddr36_3 {id off : Nat} : afieldAddr Tryz.prog 36 (.ptr id off) 3 = some (.ptr id (off + 3)) := by simp [afieldAddr, tfield]
@[simp] theorem fieldAddr36_3c {x : AV} {off : Nat} : afieldAddr Tryz.prog 36 (.cptr x off) 3 = some (.cptr x (off + 3)) := by simp [afieldAddr, tfield]
@[simp] theorem fieldAddr36_4 {id off : Nat} : afieldAddr Tryz.prog 36 (.ptr id off) 4 = some (.ptr id (off + 9)) := by simp [afieldAddr, tfield]
@[simp] theorem fieldAddr36_4c {x : AV} {off : Nat} : afieldAddr Tryz.prog 36 (.cptr x off) 4 = some (.cptr x (off + 9)) := by simp [afieldAddr, tfield]
@[simp] theorem fieldAddr36_5 {id off : Nat} : afieldAddr Tryz.prog 36 (.ptr id off) 5 = some (.ptr id (off + 10)) := by simp [afieldAddr, tfield]
@[simp] theorem fieldAddr36_5c {x : AV} {off : Nat} : afieldAddr Tryz.prog 36 (.cptr x off) 5 = some (.cptr x (off + 10)) := by simp [afieldAddr, tfield]
attribute [simp] Tryz.underlying37
@[simp] theorem tagg37 : tagg Tryz.prog 37 = some true := by kernel_rfl
@[simp] theorem tsize37 : tsize Tryz.prog 37 = some 11 := by kernel_rfl
@[simp] theorem tbytes37 : tbytes Tryz.prog 37 = some 184 := by kernel_rfl
@[simp] theorem tzero37 : tzero Tryz.prog 37 = some (.agg [.sc (.int .i64 0), .sc (.int .i64 0), .sc (.string ⟨⟨[]⟩⟩), .sc (.int .i64 0), .sc (.int .i64 0), .sc (.string ⟨⟨[]⟩⟩), .emp 0, .emp 0, .emp 0, .emp 0, .emp 0]) := by kernel_rfl
@[simp] theorem fieldAddr37_0 {id off : Nat} : afieldAddr Tryz.prog 37 (.ptr id off) 0 = some (.ptr id (off + 0)) := by simp [afieldAddr, tfield]
@[simp] theorem fieldAddr37_0c {x : AV} {off : Nat} : afieldAddr Tryz.prog 37 (.cptr x off) 0 = some (.cptr x (off + 0)) := by simp [afieldAddr, tfield]
@[simp] theorem fieldAddr37_1 {id off : Nat} : afieldAddr Tryz.prog 37 (.ptr id off) 1 = some (.ptr id (off + 1)) := by simp [afieldAddr, tfield]
@[simp] theorem fieldAddr37_1c {x : AV} {off : Nat} : afieldAddr Tryz.prog 37 (.cptr x off) 1 = some (.cptr x (off + 1)) := by simp [afieldAddr, tfield]
@[simp] theorem fieldAddr37_2 {id off : Nat} : afieldAddr Tryz.prog 37 (.ptr id off) 2 = some (.ptr id (off + 2)) := by simp [afieldAddr, tfield]
@[simp] theorem fieldAddr37_2c {x : AV} {off : Nat} : afieldAddr Tryz.prog 37 (.cptr x off) 2 = some (.cptr x (off + 2)) := by simp [afieldAddr, tfield]
@[simp] theorem fieldAddr37_3 {id off : Nat} : afieldAddr Tryz.prog 37 (.ptr id off) 3 = some (.ptr id (off + 3)) := by simp [afieldAddr, tfield]
@[simp] theorem fieldAddr37_3c {x : AV} {off : Nat} : afieldAddr Tryz.prog 37 (.cptr x off) 3 = some (.cptr x (off + 3)) := by simp [afieldAddr, tfield]
@[simp] theorem fieldAddr37_4 {id off : Nat} : afieldAddr Tryz.prog 37 (.ptr id off) 4 = some (.ptr id (off + 9)) := by simp [afieldAddr, tfield]
@[simp] theorem fieldAddr37_4c {x : AV} {off : Nat} : afieldAddr Tryz.prog 37 (.cptr x off) 4 = some (.cptr x (off + 9)) := by simp [afieldAddr, tfield]
@[simp] theorem fieldAddr37_5 {id off : Nat} : afieldAddr Tryz.prog 37 (.ptr id off) 5 = some (.ptr id (off + 10)) := by simp [afieldAddr, tfield]
@[simp] theorem fieldAddr37_5c {x : AV} {off : Nat} : afieldAddr Tryz.prog 37 (.cptr x off) 5 = some (.cptr x (off + 10)) := by simp [afieldAddr, tfield]
attribute [simp] Tryz.underlying38
@[simp] theorem tagg38 : tagg Tryz.prog 38 = some false := by kernel_rfl
@[simp] theorem tsize38 : tsize Tryz.prog 38 = some 1 := by kernel_rfl
@[simp] theorem tbytes38 : tbytes Tryz.prog 38 = some 8 := by kernel_rfl
@[simp] theorem tzero38 : tzero Tryz.prog 38 = some (.sc (.int .i64 0)) := by kernel_rfl
attribute [simp] Tryz.underlying40
@[simp] theorem tagg40 : tagg Tryz.prog 40 = some false := by kernel_rfl
@[simp] theorem tsize40 : tsize Tryz.prog 40 = some 1 := by kernel_rfl
@[simp] theorem tbytes40 : tbytes Tryz.prog 40 = some 8 := by kernel_rfl
@[simp] theorem tzero40 : tzero Tryz.prog 40 = some (.sc (.nilFunc)) := by kernel_rfl
attribute [simp] Tryz.underlying42
@[simp] theorem tagg42 : tagg Tryz.prog 42 = some false := by kernel_rfl
@[simp] theorem tsize42 : tsize Tryz.prog 42 = some 1 := by kernel_rfl
@[simp] theorem tbytes42 : tbytes Tryz.prog 42 = some 8 := by kernel_rfl
@[simp] theorem tzero42 : tzero Tryz.prog 42 = some (.sc (.nilFunc)) := by kernel_rfl
attribute [simp] Tryz.underlying43
@[simp] theorem tagg43 : tagg Tryz.prog 43 = some false := by kernel_rfl
@[simp] theorem tsize43 : tsize Tryz.prog 43 = some 1 := by kernel_rfl
@[simp] theorem tbytes43 : tbytes Tryz.prog 43 = some 8 := by kernel_rfl
@[simp] theorem tzero43 : tzero Tryz.prog 43 = some (.sc (.nilFunc)) := by kernel_rfl
attribute [simp] Tryz.underlying44
@[simp] theorem tagg44 : tagg Tryz.prog 44 = some false := by kernel_rfl
@[simp] theorem tsize44 : tsize Tryz.prog 44 = some 1 := by kernel_rfl
@[simp] theorem tbytes44 : tbytes Tryz.prog 44 = some 24 := by kernel_rfl
@[simp] theorem tzero44 : tzero Tryz.prog 44 = some (.emp 0) := by kernel_rfl
@[simp] theorem telem44 : telem Tryz.prog 44 = some 9 := by kernel_rfl
@[simp] theorem nofz44 : nofz Tryz.prog 44 = false := by kernel_rfl
attribute [simp] Tryz.underlying45
@[simp] theorem tagg45 : tagg Tryz.prog 45 = some false := by kernel_rfl
@[simp] theorem tsize45 : tsize Tryz.prog 45 = some 1 := by kernel_rfl
@[simp] theorem tbytes45 : tbytes Tryz.prog 45 = some 8 := by kernel_rfl
@[simp] theorem tzero45 : tzero Tryz.prog 45 = some (.sc (.nilFunc)) := by kernel_rfl
attribute [simp] Tryz.underlying46
@[simp] theorem tagg46 : tagg Tryz.prog 46 = some false := by kernel_rfl
@[simp] theorem tsize46 : tsize Tryz.prog 46 = some 1 := by kernel_rfl
@[simp] theorem tbytes46 : tbytes Tryz.prog 46 = some 8 := by kernel_rfl
@[simp] theorem tzero46 : tzero Tryz.prog 46 = some (.sc (.nilFunc)) := by kernel_rfl
attribute [simp] Tryz.underlying47
@[simp] theorem tagg47 : tagg Tryz.prog 47 = some false := by kernel_rfl
@[simp] theorem tsize47 : tsize Tryz.prog 47 = some 1 := by kernel_rfl
@[simp] theorem tbytes47 : tbytes Tryz.prog 47 = some 8 := by kernel_rfl
@[simp] theorem tzero47 : tzero Tryz.prog 47 = some (.sc (.nilFunc)) := by kernel_rfl
attribute [simp] Tryz.underlying48
@[simp] theorem tagg48 : tagg Tryz.prog 48 = some false := by kernel_rfl
@[simp] theorem tsize48 : tsize Tryz.prog 48 = some 1 := by kernel_rfl
@[simp] theorem tbytes48 : tbytes Tryz.prog 48 = some 8 := by kernel_rfl
@[simp] theorem tzero48 : tzero Tryz.prog 48 = some (.sc (.nilFunc)) := by kernel_rfl
attribute [simp] Tryz.underlying49
@[simp] theorem tagg49 : tagg Tryz.prog 49 = some false := by kernel_rfl
@[simp] theorem tsize49 : tsize Tryz.prog 49 = some 1 := by kernel_rfl
@[simp] theorem tbytes49 : tbytes Tryz.prog 49 = some 8 := by kernel_rfl
@[simp] theorem tzero49 : tzero Tryz.prog 49 = some (.sc (.nilFunc)) := by kernel_rfl
attribute [simp] Tryz.underlying50
@[simp] theorem tagg50 : tagg Tryz.prog 50 = some false := by kernel_rfl
@[simp] theorem tsize50 : tsize Tryz.prog 50 = some 1 := by kernel_rfl
@[simp] theorem tbytes50 : tbytes Tryz.prog 50 = some 8 := by kernel_rfl
@[simp] theorem tzero50 : tzero Tryz.prog 50 = some (.sc (.nilFunc)) := by kernel_rfl
attribute [simp] Tryz.underlying51
@[simp] theorem tagg51 : tagg Tryz.prog 51 = some false := by kernel_rfl
@[simp] theorem tsize51 : tsize Tryz.prog 51 = some 1 := by kernel_rfl
@[simp] theorem tbytes51 : tbytes Tryz.prog 51 = some 8 := by kernel_rfl
@[simp] theorem tzero51 : tzero Tryz.prog 51 = some (.sc (.nilFunc)) := by kernel_rfl
attribute [simp] Tryz.underlying52
@[simp] theorem tagg52 : tagg Tryz.prog 52 = some false := by kernel_rfl
@[simp] theorem tsize52 : tsize Tryz.prog 52 = some 1 := by kernel_rfl
@[simp] theorem tbytes52 : tbytes Tryz.prog 52 = some 8 := by kernel_rfl
@[simp] theorem tzero52 : tzero Tryz.prog 52 = some (.sc (.nilFunc)) := by kernel_rfl
attribute [simp] Tryz.underlying53
@[simp] theorem tagg53 : tagg Tryz.prog 53 = some false := by kernel_rfl
@[simp] theorem tsize53 : tsize Tryz.prog 53 = some 1 := by kernel_rfl
@[simp] theorem tbytes53 : tbytes Tryz.prog 53 = some 8 := by kernel_rfl
@[simp] theorem tzero53 : tzero Tryz.prog 53 = some (.sc (.nilFunc)) := by kernel_rfl
attribute [simp] Tryz.underlying54
@[simp] theorem tagg54 : tagg Tryz.prog 54 = some false := by kernel_rfl
@[simp] theorem tsize54 : tsize Tryz.prog 54 = some 1 := by kernel_rfl
@[simp] theorem tbytes54 : tbytes Tryz.prog 54 = some 8 := by kernel_rfl
@[simp] theorem tzero54 : tzero Tryz.prog 54 = some (.sc (.nilFunc)) := by kernel_rfl
attribute [simp] Tryz.underlying55
@[simp] theorem tagg55 : tagg Tryz.prog 55 = some false := by kernel_rfl
@[simp] theorem tsize55 : tsize Tryz.prog 55 = some 1 := by kernel_rfl
@[simp] theorem tbytes55 : tbytes Tryz.prog 55 = some 8 := by kernel_rfl
@[simp] theorem tzero55 : tzero Tryz.prog 55 = some (.sc (.pointer Option.none)) := by kernel_rfl
attribute [simp] Tryz.underlying56
@[simp] theorem tagg56 : tagg Tryz.prog 56 = some true := by kernel_rfl
@[simp] theorem tsize56 : tsize Tryz.prog 56 = some 3 := by kernel_rfl
@[simp] theorem tbytes56 : tbytes Tryz.prog 56 = some 24 := by kernel_rfl
@[simp] theorem tzero56 : tzero Tryz.prog 56 = some (.agg [.sc (.pointer Option.none), .sc (.int .i64 0), .sc (.int .i64 0)]) := by kernel_rfl
@[simp] theorem fieldAddr56_0 {id off : Nat} : afieldAddr Tryz.prog 56 (.ptr id off) 0 = some (.ptr id (off + 0)) := by simp [afieldAddr, tfield]
@[simp] theorem fieldAddr56_0c {x : AV} {off : Nat} : afieldAddr Tryz.prog 56 (.cptr x off) 0 = some (.cptr x (off + 0)) := by simp [afieldAddr, tfield]
@[simp] theorem fieldAddr56_1 {id off : Nat} : afieldAddr Tryz.prog 56 (.ptr id off) 1 = some (.ptr id (off + 1)) := by simp [afieldAddr, tfield]
@[simp] theorem fieldAddr56_1c {x : AV} {off : Nat} : afieldAddr Tryz.prog 56 (.cptr x off) 1 = some (.cptr x (off + 1)) := by simp [afieldAddr, tfield]
@[simp] theorem fieldAddr56_2 {id off : Nat} : afieldAddr Tryz.prog 56 (.ptr id off) 2 = some (.ptr id (off + 2)) := by simp [afieldAddr, tfield]
@[simp] theorem fieldAddr56_2c {x : AV} {off : Nat} : afieldAddr Tryz.prog 56 (.cptr x off) 2 = some (.cptr x (off + 2)) := by simp [afieldAddr, tfield]
attribute [simp] Tryz.underlying57
@[simp] theorem tagg57 : tagg Tryz.prog 57 = some true := by kernel_rfl
@[simp] theorem tsize57 : tsize Tryz.prog 57 = some 3 := by kernel_rfl
@[simp] theorem tbytes57 : tbytes Tryz.prog 57 = some 24 := by kernel_rfl
@[simp] theorem tzero57 : tzero Tryz.prog 57 = some (.agg [.sc (.pointer Option.none), .sc (.int .i64 0), .sc (.int .i64 0)]) := by kernel_rfl
@[simp] theorem fieldAddr57_0 {id off : Nat} : afieldAddr Tryz.prog 57 (.ptr id off) 0 = some (.ptr id (off + 0)) := by simp [afieldAddr, tfield]
@[simp] theorem fieldAddr57_0c {x : AV} {off : Nat} : afieldAddr Tryz.prog 57 (.cptr x off) 0 = some (.cptr x (off + 0)) := by simp [afieldAddr, tfield]
@[simp] theorem fieldAddr57_1 {id off : Nat} : afieldAddr Tryz.prog 57 (.ptr id off) 1 = some (.ptr id (off + 1)) := by simp [afieldAddr, tfield]
@[simp] theorem fieldAddr57_1c {x : AV} {off : Nat} : afieldAddr Tryz.prog 57 (.cptr x off) 1 = some (.cptr x (off + 1)) := by simp [afieldAddr, tfield]
@[simp] theorem fieldAddr57_2 {id off : Nat} : afieldAddr Tryz.prog 57 (.ptr id off) 2 = some (.ptr id (off + 2)) := by simp [afieldAddr, tfield]
@[simp] theorem fieldAddr57_2c {x : AV} {off : Nat} : afieldAddr Tryz.prog 57 (.cptr x off) 2 = some (.cptr x (off + 2)) := by simp [afieldAddr, tfield]
attribute [simp] Tryz.underlying58
@[simp] theorem tagg58 : tagg Tryz.prog 58 = some false := by kernel_rfl
@[simp] theorem tsize58 : tsize Tryz.prog 58 = some 1 := by kernel_rfl
@[simp] theorem tbytes58 : tbytes Tryz.prog 58 = some 8 := by kernel_rfl
@[simp] theorem tzero58 : tzero Tryz.prog 58 = some (.sc (.nilFunc)) := by kernel_rfl
attribute [simp] Tryz.underlying59
@[simp] theorem tagg59 : tagg Tryz.prog 59 = some false := by kernel_rfl
@[simp] theorem tsize59 : tsize Tryz.prog 59 = some 1 := by kernel_rfl
@[simp] theorem tbytes59 : tbytes Tryz.prog 59 = some 8 := by kernel_rfl
@[simp] theorem tzero59 : tzero Tryz.prog 59 = some (.sc (.nilFunc)) := by kernel_rfl
attribute [simp] Tryz.underlying60
@[simp] theorem tagg60 : tagg Tryz.prog 60 = some false := by kernel_rfl
@[simp] theorem tsize60 : tsize Tryz.prog 60 = some 1 := by kernel_rfl
@[simp] theorem tbytes60 : tbytes Tryz.prog 60 = some 8 := by kernel_rfl
@[simp] theorem tzero60 : tzero Tryz.prog 60 = some (.sc (.nilFunc)) := by kernel_rfl
attribute [simp] Tryz.underlying61
@[simp] theorem tagg61 : tagg Tryz.prog 61 = some false := by kernel_rfl
@[simp] theorem tsize61 : tsize Tryz.prog 61 = some 1 := by kernel_rfl
@[simp] theorem tbytes61 : tbytes Tryz.prog 61 = some 8 := by kernel_rfl
@[simp] theorem tzero61 : tzero Tryz.prog 61 = some (.sc (.nilFunc)) := by kernel_rfl
attribute [simp] Tryz.underlying62
@[simp] theorem tagg62 : tagg Tryz.prog 62 = some false := by kernel_rfl
@[simp] theorem tsize62 : tsize Tryz.prog 62 = some 1 := by kernel_rfl
@[simp] theorem tbytes62 : tbytes Tryz.prog 62 = some 8 := by kernel_rfl
@[simp] theorem tzero62 : tzero Tryz.prog 62 = some (.sc (.nilFunc)) := by kernel_rfl
attribute [simp] Tryz.underlying63
@[simp] theorem tagg63 : tagg Tryz.prog 63 = some false := by kernel_rfl
@[simp] theorem tsize63 : tsize Tryz.prog 63 = some 1 := by kernel_rfl
@[simp] theorem tbytes63 : tbytes Tryz.prog 63 = some 8 := by kernel_rfl
@[simp] theorem tzero63 : tzero Tryz.prog 63 = some (.sc (.pointer Option.none)) := by kernel_rfl
attribute [simp] Tryz.underlying64
@[simp] theorem tagg64 : tagg Tryz.prog 64 = some false := by kernel_rfl
@[simp] theorem tsize64 : tsize Tryz.prog 64 = some 1 := by kernel_rfl
@[simp] theorem tbytes64 : tbytes Tryz.prog 64 = some 8 := by kernel_rfl
@[simp] theorem tzero64 : tzero Tryz.prog 64 = some (.sc (.nilFunc)) := by kernel_rfl
attribute [simp] Tryz.underlying65
@[simp] theorem tagg65 : tagg Tryz.prog 65 = some false := by kernel_rfl
@[simp] theorem tsize65 : tsize Tryz.prog 65 = some 1 := by kernel_rfl
@[simp] theorem tbytes65 : tbytes Tryz.prog 65 = some 8 := by kernel_rfl
@[simp] theorem tzero65 : tzero Tryz.prog 65 = some (.sc (.nilFunc)) := by kernel_rfl
attribute [simp] Tryz.underlying66
@[simp] theorem tagg66 : tagg Tryz.prog 66 = some false := by kernel_rfl
@[simp] theorem tsize66 : tsize Tryz.prog 66 = some 1 := by kernel_rfl
@[simp] theorem tbytes66 : tbytes Tryz.prog 66 = some 8 := by kernel_rfl
@[simp] theorem tzero66 : tzero Tryz.prog 66 = some (.sc (.nilFunc)) := by kernel_rfl
attribute [simp] Tryz.underlying67
@[simp] theorem tagg67 : tagg Tryz.prog 67 = some false := by kernel_rfl
@[simp] theorem tsize67 : tsize Tryz.prog 67 = some 1 := by kernel_rfl
@[simp] theorem tbytes67 : tbytes Tryz.prog 67 = some 8 := by kernel_rfl
@[simp] theorem tzero67 : tzero Tryz.prog 67 = some (.sc (.nilFunc)) := by kernel_rfl
attribute [simp] Tryz.underlying68
@[simp] theorem tagg68 : tagg Tryz.prog 68 = some false := by kernel_rfl
@[simp] theorem tsize68 : tsize Tryz.prog 68 = some 1 := by kernel_rfl
@[simp] theorem tbytes68 : tbytes Tryz.prog 68 = some 8 := by kernel_rfl
@[simp] theorem tzero68 : tzero Tryz.prog 68 = some (.sc (.nilFunc)) := by kernel_rfl
attribute [simp] Tryz.underlying69
@[simp] theorem tagg69 : tagg Tryz.prog 69 = some false := by kernel_rfl
@[simp] theorem tsize69 : tsize Tryz.prog 69 = some 1 := by kernel_rfl
@[simp] theorem tbytes69 : tbytes Tryz.prog 69 = some 24 := by kernel_rfl
@[simp] theorem tzero69 : tzero Tryz.prog 69 = some (.emp 0) := by kernel_rfl
@[simp] theorem telem69 : telem Tryz.prog 69 = some 184 := by kernel_rfl
@[simp] theorem nofz69 : nofz Tryz.prog 69 = false := by kernel_rfl
attribute [simp] Tryz.underlying70
@[simp] theorem tagg70 : tagg Tryz.prog 70 = some true := by kernel_rfl
@[simp] theorem tsize70 : tsize Tryz.prog 70 = some 3 := by kernel_rfl
@[simp] theorem tbytes70 : tbytes Tryz.prog 70 = some 56 := by kernel_rfl
@[simp] theorem tzero70 : tzero Tryz.prog 70 = some (.agg [.emp 0, .emp 0, .sc (.int .i64 0)]) := by kernel_rfl
@[simp] theorem fieldAddr70_0 {id off : Nat} : afieldAddr Tryz.prog 70 (.ptr id off) 0 = some (.ptr id (off + 0)) := by simp [afieldAddr, tfield]
@[simp] theorem fieldAddr70_0c {x : AV} {off : Nat} : afieldAddr Tryz.prog 70 (.cptr x off) 0 = some (.cptr x (off + 0)) := by simp [afieldAddr, tfield]
@[simp] theorem fieldAddr70_1 {id off : Nat} : afieldAddr Tryz.prog 70 (.ptr id off) 1 = some (.ptr id (off + 1)) := by simp [afieldAddr, tfield]
@[simp] theorem fieldAddr70_1c {x : AV} {off : Nat} : afieldAddr Tryz.prog 70 (.cptr x off) 1 = some (.cptr x (off + 1)) := by simp [afieldAddr, tfield]
@[simp] theorem fieldAddr70_2 {id off : Nat} : afieldAddr Tryz.prog 70 (.ptr id off) 2 = some (.ptr id (off + 2)) := by simp [afieldAddr, tfield]
@[simp] theorem fieldAddr70_2c {x : AV} {off : Nat} : afieldAddr Tryz.prog 70 (.cptr x off) 2 = some (.cptr x (off + 2)) := by simp [afieldAddr, tfield]
attribute [simp] Tryz.underlying71
@[simp] theorem tagg71 : tagg Tryz.prog 71 = some true := by kernel_rfl
@[simp] theorem tsize71 : tsize Tryz.prog 71 = some 3 := by kernel_rfl
@[simp] theorem tbytes71 : tbytes Tryz.prog 71 = some 56 := by kernel_rfl
@[simp] theorem tzero71 : tzero Tryz.prog 71 = some (.agg [.emp 0, .emp 0, .sc (.int .i64 0)]) := by kernel_rfl
@[simp] theorem fieldAddr71_0 {id off : Nat} : afieldAddr Tryz.prog 71 (.ptr id off) 0 = some (.ptr id (off + 0)) := by simp [afieldAddr, tfield]
@[simp] theorem fieldAddr71_0c {x : AV} {off : Nat} : afieldAddr Tryz.prog 71 (.cptr x off) 0 = some (.cptr x (off + 0)) := by simp [afieldAddr, tfield]
@[simp] theorem fieldAddr71_1 {id off : Nat} : afieldAddr Tryz.prog 71 (.ptr id off) 1 = some (.ptr id (off + 1)) := by simp [afieldAddr, tfield]
@[simp] theorem fieldAddr71_1c {x : AV} {off : Nat} : afieldAddr Tryz.prog 71 (.cptr x off) 1 = some (.cptr x (off + 1)) := by simp [afieldAddr, tfield]
@[simp] theorem fieldAddr71_2 {id off : Nat} : afieldAddr Tryz.prog 71 (.ptr id off) 2 = some (.ptr id (off + 2)) := by simp [afieldAddr, tfield]
@[simp] theorem fieldAddr71_2c {x : AV} {off : Nat} : afieldAddr Tryz.prog 71 (.cptr x off) 2 = some (.cptr x (off + 2)) := by simp [afieldAddr, tfield]
attribute [simp] Tryz.underlying72
@[simp] theorem tagg72 : tagg Tryz.prog 72 = some false := by kernel_rfl
@[simp] theorem tsize72 : tsize Tryz.prog 72 = some 1 := by kernel_rfl
@[simp] theorem tbytes72 : tbytes Tryz.prog 72 = some 8 := by kernel_rfl
@[simp] theorem tzero72 : tzero Tryz.prog 72 = some (.sc (.nilFunc)) := by kernel_rfl
attribute [simp] Tryz.underlying74
@[simp] theorem tagg74 : tagg Tryz.prog 74 = some false := by kernel_rfl
@[simp] theorem tsize74 : tsize Tryz.prog 74 = some 1 := by kernel_rfl
@[simp] theorem tbytes74 : tbytes Tryz.prog 74 = some 8 := by kernel_rfl
@[simp] theorem tzero74 : tzero Tryz.prog 74 = some (.sc (.nilFunc)) := by kernel_rfl
attribute [simp] Tryz.underlying75
@[simp] theorem tagg75 : tagg Tryz.prog 75 = some false := by kernel_rfl
@[simp] theorem tsize75 : tsize Tryz.prog 75 = some 1 := by kernel_rfl
@[simp] theorem tbytes75 : tbytes Tryz.prog 75 = some 8 := by kernel_rfl
@[simp] theorem tzero75 : tzero Tryz.prog 75 = some (.sc (.nilFunc)) := by kernel_rfl
attribute [simp] Tryz.underlying76
@[simp] theorem tagg76 : tagg Tryz.prog 76 = some false := by kernel_rfl
@[simp] theorem tsize76 : tsize Tryz.prog 76 = some 1 := by kernel_rfl
@[simp] theorem tbytes76 : tbytes Tryz.prog 76 = some 8 := by kernel_rfl
@[simp] theorem tzero76 : tzero Tryz.prog 76 = some (.sc (.nilFunc)) := by kernel_rfl
attribute [simp] Tryz.underlying78
@[simp] theorem tagg78 : tagg Tryz.prog 78 = some false := by kernel_rfl
@[simp] theorem tsize78 : tsize Tryz.prog 78 = some 1 := by kernel_rfl
@[simp] theorem tbytes78 : tbytes Tryz.prog 78 = some 8 := by kernel_rfl
@[simp] theorem tzero78 : tzero Tryz.prog 78 = some (.sc (.nilFunc)) := by kernel_rfl
attribute [simp] Tryz.underlying79
@[simp] theorem tagg79 : tagg Tryz.prog 79 = some true := by kernel_rfl
@[simp] theorem tsize79 : tsize Tryz.prog 79 = some 4 := by kernel_rfl
@[simp] theorem tbytes79 : tbytes Tryz.prog 79 = some 48 := by kernel_rfl
@[simp] theorem tzero79 : tzero Tryz.prog 79 = some (.agg [.sc (.int .i64 0), .sc (.int .i64 0), .sc (.string ⟨⟨[]⟩⟩), .sc (.string ⟨⟨[]⟩⟩)]) := by kernel_rfl
@[simp] theorem fieldAddr79_0 {id off : Nat} : afieldAddr Tryz.prog 79 (.ptr id off) 0 = some (.ptr id (off + 0)) := by simp [afieldAddr, tfield]
@[simp] theorem fieldAddr79_0c {x : AV} {off : Nat} : afieldAddr Tryz.prog 79 (.cptr x off) 0 = some (.cptr x (off + 0)) := by simp [afieldAddr, tfield]
@[simp] theorem fieldAddr79_1 {id off : Nat} : afieldAddr Tryz.prog 79 (.ptr id off) 1 = some (.ptr id (off + 1)) := by simp [afieldAddr, tfield]
@[simp] theorem fieldAddr79_1c {x : AV} {off : Nat} : afieldAddr Tryz.prog 79 (.cptr x off) 1 = some (.cptr x (off + 1)) := by simp [afieldAddr, tfield]
@[simp] theorem fieldAddr79_2 {id off : Nat} : afieldAddr Tryz.prog 79 (.ptr id off) 2 = some (.ptr id (off + 2)) := by simp [afieldAddr, tfield]
@[simp] theorem fieldAddr79_2c {x : AV} {off : Nat} : afieldAddr Tryz.prog 79 (.cptr x off) 2 = some (.cptr x (off + 2)) := by simp [afieldAddr, tfield]
@[simp] theorem fieldAddr79_3 {id off : Nat} : afieldAddr Tryz.prog 79 (.ptr id off) 3 = some (.ptr id (off + 3)) := by simp [afieldAddr, tfield]
@[simp] theorem fieldAddr79_3c {x : AV} {off : Nat} : afieldAddr Tryz.prog 79 (.cptr x off) 3 = some (.cptr x (off + 3)) := by simp [afieldAddr, tfield]
attribute [simp] Tryz.underlying80
@[simp] theorem tagg80 : tagg Tryz.prog 80 = some true := by kernel_rfl
@[simp] theorem tsize80 : tsize Tryz.prog 80 = some 4 := by kernel_rfl
@[simp] theorem tbytes80 : tbytes Tryz.prog 80 = some 48 := by kernel_rfl
@[simp] theorem tzero80 : tzero Tryz.prog 80 = some (.agg [.sc (.int .i64 0), .sc (.int .i64 0), .sc (.string ⟨⟨[]⟩⟩), .sc (.string ⟨⟨[]⟩⟩)]) := by kernel_rfl
@[simp] theorem fieldAddr80_0 {id off : Nat} : afieldAddr Tryz.prog 80 (.ptr id off) 0 = some (.ptr id (off + 0)) := by simp [afieldAddr, tfield]
@[simp] theorem fieldAddr80_0c {x : AV} {off : Nat} : afieldAddr Tryz.prog 80 (.cptr x off) 0 = some (.cptr x (off + 0)) := by simp [afieldAddr, tfield]
@[simp] theorem fieldAddr80_1 {id off : Nat} : afieldAddr Tryz.prog 80 (.ptr id off) 1 = some (.ptr id (off + 1)) := by simp [afieldAddr, tfield]
@[simp] theorem fieldAddr80_1c {x : AV} {off : Nat} : afieldAddr Tryz.prog 80 (.cptr x off) 1 = some (.cptr x (off + 1)) := by simp [afieldAddr, tfield]
@[simp] theorem fieldAddr80_2 {id off : Nat} : afieldAddr Tryz.prog 80 (.ptr id off) 2 = some (.ptr id (off + 2)) := by simp [afieldAddr, tfield]
@[simp] theorem fieldAddr80_2c {x : AV} {off : Nat} : afieldAddr Tryz.prog 80 (.cptr x off) 2 = some (.cptr x (off + 2)) := by simp [afieldAddr, tfield]
@[simp] theorem fieldAddr80_3 {id off : Nat} : afieldAddr Tryz.prog 80 (.ptr id off) 3 = some (.ptr id (off + 3)) := by simp [afieldAddr, tfield]
@[simp] theorem fieldAddr80_3c {x : AV} {off : Nat} : afieldAddr Tryz.prog 80 (.cptr x off) 3 = some (.cptr x (off + 3)) := by simp [afieldAddr, tfield]
attribute [simp] Tryz.underlying81
@[simp] theorem tagg81 : tagg Tryz.prog 81 = some false := by kernel_rfl
@[simp] theorem tsize81 : tsize Tryz.prog 81 = some 1 := by kernel_rfl
@[simp] theorem tbytes81 : tbytes Tryz.prog 81 = some 8 := by kernel_rfl
@[simp] theorem tzero81 : tzero Tryz.prog 81 = some (.sc (.nilFunc)) := by kernel_rfl
attribute [simp] Tryz.underlying82
@[simp] theorem tagg82 : tagg Tryz.prog 82 = some false := by kernel_rfl
@[simp] theorem tsize82 : tsize Tryz.prog 82 = some 1 := by kernel_rfl
@[simp] theorem tbytes82 : tbytes Tryz.prog 82 = some 8 := by kernel_rfl
@[simp] theorem tzero82 : tzero Tryz.prog 82 = some (.sc (.nilFunc)) := by kernel_rfl
attribute [simp] Tryz.underlying83
@[simp] theorem tagg83 : tagg Tryz.prog 83 = some false := by kernel_rfl
@[simp] theorem tsize83 : tsize Tryz.prog 83 = some 1 := by kernel_rfl
@[simp] theorem tbytes83 : tbytes Tryz.prog 83 = some 8 := by kernel_rfl
@[simp] theorem tzero83 : tzero Tryz.prog 83 = some (.sc (.nilFunc)) := by kernel_rfl
attribute [simp] Tryz.underlying84
@[simp] theorem tagg84 : tagg Tryz.prog 84 = some false := by kernel_rfl
@[simp] theorem tsize84 : tsize Tryz.prog 84 = some 1 := by kernel_rfl
@[simp] theorem tbytes84 : tbytes Tryz.prog 84 = some 8 := by kernel_rfl
@[simp] theorem tzero84 : tzero Tryz.prog 84 = some (.sc (.nilFunc)) := by kernel_rfl
attribute [simp] Tryz.underlying85
@[simp] theorem tagg85 : tagg Tryz.prog 85 = some false := by kernel_rfl
@[simp] theorem tsize85 : tsize Tryz.prog 85 = some 1 := by kernel_rfl
@[simp] theorem tbytes85 : tbytes Tryz.prog 85 = some 8 := by kernel_rfl
@[simp] theorem tzero85 : tzero Tryz.prog 85 = some (.sc (.nilFunc)) := by kernel_rfl
attribute [simp] Tryz.underlying86
@[simp] theorem tagg86 : tagg Tryz.prog 86 = some false := by kernel_rfl
@[simp] theorem tsize86 : tsize Tryz.prog 86 = some 1 := by kernel_rfl
@[simp] theorem tbytes86 : tbytes Tryz.prog 86 = some 8 := by kernel_rfl
@[simp] theorem tzero86 : tzero Tryz.prog 86 = some (.sc (.nilFunc)) := by kernel_rfl
attribute [simp] Tryz.underlying87
@[simp] theorem tagg87 : tagg Tryz.prog 87 = some false := by kernel_rfl
@[simp] theorem tsize87 : tsize Tryz.prog 87 = some 1 := by kernel_rfl
@[simp] theorem tbytes87 : tbytes Tryz.prog 87 = some 8 := by kernel_rfl
@[simp] theorem tzero87 : tzero Tryz.prog 87 = some (.sc (.nilFunc)) := by kernel_rfl
attribute [simp] Tryz.underlying88
@[simp] theorem tagg88 : tagg Tryz.prog 88 = some false := by kernel_rfl
@[simp] theorem tsize88 : tsize Tryz.prog 88 = some 1 := by kernel_rfl
@[simp] theorem tbytes88 : tbytes Tryz.prog 88 = some 8 := by kernel_rfl
@[simp] theorem tzero88 : tzero Tryz.prog 88 = some (.sc (.pointer Option.none)) := by kernel_rfl
attribute [simp] Tryz.underlying89
@[simp] theorem tagg89 : tagg Tryz.prog 89 = some false := by kernel_rfl
@[simp] theorem tsize89 : tsize Tryz.prog 89 = some 1 := by kernel_rfl
@[simp] theorem tbytes89 : tbytes Tryz.prog 89 = some 8 := by kernel_rfl
@[simp] theorem tzero89 : tzero Tryz.prog 89 = some (.sc (.nilFunc)) := by kernel_rfl
attribute [simp] Tryz.underlying90
@[simp] theorem tagg90 : tagg Tryz.prog 90 = some false := by kernel_rfl
@[simp] theorem tsize90 : tsize Tryz.prog 90 = some 1 := by kernel_rfl
@[simp] theorem tbytes90 : tbytes Tryz.prog 90 = some 8 := by kernel_rfl
@[simp] theorem tzero90 : tzero Tryz.prog 90 = some (.sc (.nilFunc)) := by kernel_rfl
attribute [simp] Tryz.underlying91
@[simp] theorem tagg91 : tagg Tryz.prog 91 = some false := by kernel_rfl
@[simp] theorem tsize91 : tsize Tryz.prog 91 = some 1 := by kernel_rfl
@[simp] theorem tbytes91 : tbytes Tryz.prog 91 = some 8 := by kernel_rfl
@[simp] theorem tzero91 : tzero Tryz.prog 91 = some (.sc (.nilFunc)) := by kernel_rfl
attribute [simp] Tryz.underlying92
@[simp] theorem tagg92 : tagg Tryz.prog 92 = some false := by kernel_rfl
@[simp] theorem tsize92 : tsize Tryz.prog 92 = some 1 := by kernel_rfl
@[simp] theorem tbytes92 : tbytes Tryz.prog 92 = some 8 := by kernel_rfl
@[simp] theorem tzero92 : tzero Tryz.prog 92 = some (.sc (.nilFunc)) := by kernel_rfl
attribute [simp] Tryz.underlying93
@[simp] theorem tagg93 : tagg Tryz.prog 93 = some false := by kernel_rfl
@[simp] theorem tsize93 : tsize Tryz.prog 93 = some 1 := by kernel_rfl
@[simp] theorem tbytes93 : tbytes Tryz.prog 93 = some 24 := by kernel_rfl
@[simp] theorem tzero93 : tzero Tryz.prog 93 = some (.emp 0) := by kernel_rfl
@[simp] theorem telem93 : telem Tryz.prog 93 = some 98 := by kernel_rfl
@[simp] theorem nofz93 : nofz Tryz.prog 93 = false := by kernel_rfl
attribute [simp] Tryz.underlying94
@[simp] theorem tagg94 : tagg Tryz.prog 94 = some false := by kernel_rfl
@[simp] theorem tsize94 : tsize Tryz.prog 94 = some 1 := by kernel_rfl
@[simp] theorem tbytes94 : tbytes Tryz.prog 94 = some 8 := by kernel_rfl
@[simp] theorem tzero94 : tzero Tryz.prog 94 = some (.sc (.nilFunc)) := by kernel_rfl
attribute [simp] Tryz.underlying95
@[simp] theorem tagg95 : tagg Tryz.prog 95 = some true := by kernel_rfl
@[simp] theorem tsize95 : tsize Tryz.prog 95 = some 2 := by kernel_rfl
@[simp] theorem tbytes95 : tbytes Tryz.prog 95 = some 32 := by kernel_rfl
@[simp] theorem tzero95 : tzero Tryz.prog 95 = some (.agg [.sc (.string ⟨⟨[]⟩⟩), .sc (.string ⟨⟨[]⟩⟩)]) := by kernel_rfl
@[simp] theorem fieldAddr95_0 {id off : Nat} : afieldAddr Tryz.prog 95 (.ptr id off) 0 = some (.ptr id (off + 0)) := by simp [afieldAddr, tfield]
@[simp] theorem fieldAddr95_0c {x : AV} {off : Nat} : afieldAddr Tryz.prog 95 (.cptr x off) 0 = some (.cptr x (off + 0)) := by simp [afieldAddr, tfield]
@[simp] theorem fieldAddr95_1 {id off : Nat} : afieldAddr Tryz.prog 95 (.ptr id off) 1 = some (.ptr id (off + 1)) := by simp [afieldAddr, tfield]
@[simp] theorem fieldAddr95_1c {x : AV} {off : Nat} : afieldAddr Tryz.prog 95 (.cptr x off) 1 = some (.cptr x (off + 1)) := by simp [afieldAddr, tfield]
attribute [simp] Tryz.underlying96
@[simp] theorem tagg96 : tagg Tryz.prog 96 = some true := by kernel_rfl
@[simp] theorem tsize96 : tsize Tryz.prog 96 = some 2 := by kernel_rfl
@[simp] theorem tbytes96 : tbytes Tryz.prog 96 = some 32 := by kernel_rfl
@[simp] theorem tzero96 : tzero Tryz.prog 96 = some (.agg [.sc (.string ⟨⟨[]⟩⟩), .sc (.string ⟨⟨[]⟩⟩)]) := by kernel_rfl
@[simp] theorem fieldAddr96_0 {id off : Nat} : afieldAddr Tryz.prog 96 (.ptr id off) 0 = some (.ptr id (off + 0)) := by simp [afieldAddr, tfield]
@[simp] theorem fieldAddr96_0c {x : AV} {off : Nat} : afieldAddr Tryz.prog 96 (.cptr x off) 0 = some (.cptr x (off + 0)) := by simp [afieldAddr, tfield]
@[simp] theorem fieldAddr96_1 {id off : Nat} : afieldAddr Tryz.prog 96 (.ptr id off) 1 = some (.ptr id (off + 1)) := by simp [afieldAddr, tfield]
@[simp] theorem fieldAddr96_1c {x : AV} {off : Nat} : afieldAddr Tryz.prog 96 (.cptr x off) 1 = some (.cptr x (off + 1)) := by simp [afieldAddr, tfield]
attribute [simp] Tryz.underlying97
@[simp] theorem tagg97 : tagg Tryz.prog 97 = some true := by kernel_rfl
@[simp] theorem tsize97 : tsize Tryz.prog 97 = some 10 := by kernel_rfl
@[simp] theorem tbytes97 : tbytes Tryz.prog 97 = some 152 := by kernel_rfl
@[simp] theorem tzero97 : tzero Tryz.prog 97 = some (.agg [.sc (.int .i64 0), .sc (.int .i64 0), .sc (.int .i64 0), .sc (.string ⟨⟨[]⟩⟩), .emp 0, .emp 0, .emp 0, .sc (.string ⟨⟨[]⟩⟩), .sc (.string ⟨⟨[]⟩⟩), .sc (.int .i64 0)]) := by kernel_rfl
@[simp] theorem fieldAddr97_0 {id off : Nat} : afieldAddr Tryz.prog 97 (.ptr id off) 0 = some (.ptr id (off + 0)) := by simp [afieldAddr, tfield]
@[simp] theorem fieldAddr97_0c {x : AV} {off : Nat} : afieldAddr Tryz.prog 97 (.cptr x off) 0 = some (.cptr x (off + 0)) := by simp [afieldAddr, tfield]
@[simp] theorem fieldAddr97_1 {id off : Nat} : afieldAddr Tryz.prog 97 (.ptr id off) 1 = some (.ptr id (off + 1)) := by simp [afieldAddr, tfield]
@[simp] theorem fieldAddr97_1c {x : AV} {off : Nat} : afieldAddr Tryz.prog 97 (.cptr x off) 1 = some (.cptr x (off + 1)) := by simp [afieldAddr, tfield]
@[simp] theorem fieldAddr97_2 {id off : Nat} : afieldAddr Tryz.prog 97 (.ptr id off) 2 = some (.ptr id (off + 7)) := by simp [afieldAddr, tfield]
@[simp] theorem fieldAddr97_2c {x : AV} {off : Nat} : afieldAddr Tryz.prog 97 (.cptr x off) 2 = some (.cptr x (off + 7)) := by simp [afieldAddr, tfield]
@[simp] theorem fieldAddr97_3 {id off : Nat} : afieldAddr Tryz.prog 97 (.ptr id off) 3 = some (.ptr id (off + 9)) := by simp [afieldAddr, tfield]
@[simp] theorem fieldAddr97_3c {x : AV} {off : Nat} : afieldAddr Tryz.prog 97 (.cptr x off) 3 = some (.cptr x (off + 9)) := by simp [afieldAddr, tfield]
attribute [simp] Tryz.underlying98
@[simp] theorem tagg98 : tagg Tryz.prog 98 = some true := by kernel_rfl
@[simp] theorem tsize98 : tsize Tryz.prog 98 = some 10 := by kernel_rfl
@[simp] theorem tbytes98 : tbytes Tryz.prog 98 = some 152 := by kernel_rfl
@[simp] theorem tzero98 : tzero Tryz.prog 98 = some (.agg [.sc (.int .i64 0), .sc (.int .i64 0), .sc (.int .i64 0), .sc (.string ⟨⟨[]⟩⟩), .emp 0, .emp 0, .emp 0, .sc (.string ⟨⟨[]⟩⟩), .sc (.string ⟨⟨[]⟩⟩), .sc (.int .i64 0)]) := by kernel_rfl
@[simp] theorem fieldAddr98_0 {id off : Nat} : afieldAddr Tryz.prog 98 (.ptr id off) 0 = some (.ptr id (off + 0)) := by simp [afieldAddr, tfield]
@[simp] theorem fieldAddr98_0c {x : AV} {off : Nat} : afieldAddr Tryz.prog 98 (.cptr x off) 0 = some (.cptr x (off + 0)) := by simp [afieldAddr, tfield]
@[simp] theorem fieldAddr98_1 {id off : Nat} : afieldAddr Tryz.prog 98 (.ptr id off) 1 = some (.ptr id (off + 1)) := by simp [afieldAddr, tfield]
@[simp] theorem fieldAddr98_1c {x : AV} {off : Nat} : afieldAddr Tryz.prog 98 (.cptr x off) 1 = some (.cptr x (off + 1)) := by simp [afieldAddr, tfield]
@[simp] theorem fieldAddr98_2 {id off : Nat} : afieldAddr Tryz.prog 98 (.ptr id off) 2 = some (.ptr id (off + 7)) := by simp [afieldAddr, tfield]
@[simp] theorem fieldAddr98_2c {x : AV} {off : Nat} : afieldAddr Tryz.prog 98 (.cptr x off) 2 = some (.cptr x (off + 7)) := by simp [afieldAddr, tfield]
@[simp] theorem fieldAddr98_3 {id off : Nat} : afieldAddr Tryz.prog 98 (.ptr id off) 3 = some (.ptr id (off + 9)) := by simp [afieldAddr, tfield]
@[simp] theorem fieldAddr98_3c {x : AV} {off : Nat} : afieldAddr Tryz.prog 98 (.cptr x off) 3 = some (.cptr x (off + 9)) := by simp [afieldAddr, tfield]
attribute [simp] Tryz.underlying99
@[simp] theorem tagg99 : tagg Tryz.prog 99 = some false := by kernel_rfl
@[simp] theorem tsize99 : tsize Tryz.prog 99 = some 1 := by kernel_rfl
@[simp] theorem tbytes99 : tbytes Tryz.prog 99 = some 8 := by kernel_rfl
@[simp] theorem tzero99 : tzero Tryz.prog 99 = some (.sc (.map Option.none)) := by kernel_rfl
@[simp] theorem tmap99 : tmap Tryz.prog 99 = some (3, 3) := by kernel_rfl
attribute [simp] Tryz.underlying100
@[simp] theorem tagg100 : tagg Tryz.prog 100 = some true := by kernel_rfl
@[simp] theorem tsize100 : tsize Tryz.prog 100 = some 2 := by kernel_rfl
@[simp] theorem tbytes100 : tbytes Tryz.prog 100 = some 32 := by kernel_rfl
@[simp] theorem tzero100 : tzero Tryz.prog 100 = some (.agg [.emp 0, .sc (.map Option.none)]) := by kernel_rfl
@[simp] theorem fieldAddr100_0 {id off : Nat} : afieldAddr Tryz.prog 100 (.ptr id off) 0 = some (.ptr id (off + 0)) := by simp [afieldAddr, tfield]
@[simp] theorem fieldAddr100_0c {x : AV} {off : Nat} : afieldAddr Tryz.prog 100 (.cptr x off) 0 = some (.cptr x (off + 0)) := by simp [afieldAddr, tfield]
@[simp] theorem fieldAddr100_1 {id off : Nat} : afieldAddr Tryz.prog 100 (.ptr id off) 1 = some (.ptr id (off + 1)) := by simp [afieldAddr, tfield]
@[simp] theorem fieldAddr100_1c {x : AV} {off : Nat} : afieldAddr Tryz.prog 100 (.cptr x off) 1 = some (.cptr x (off + 1)) := by simp [afieldAddr, tfield]
attribute [simp] Tryz.underlying101
@[simp] theorem tagg101 : tagg Tryz.prog 101 = some true := by kernel_rfl
@[simp] theorem tsize101 : tsize Tryz.prog 101 = some 2 := by kernel_rfl
@[simp] theorem tbytes101 : tbytes Tryz.prog 101 = some 32 := by kernel_rfl
@[simp] theorem tzero101 : tzero Tryz.prog 101 = some (.agg [.emp 0, .sc (.map Option.none)]) := by kernel_rfl
@[simp] theorem fieldAddr101_0 {id off : Nat} : afieldAddr Tryz.prog 101 (.ptr id off) 0 = some (.ptr id (off + 0)) := by simp [afieldAddr, tfield]
@[simp] theorem fieldAddr101_0c {x : AV} {off : Nat} : afieldAddr Tryz.prog 101 (.cptr x off) 0 = some (.cptr x (off + 0)) := by simp [afieldAddr, tfield]
@[simp] theorem fieldAddr101_1 {id off : Nat} : afieldAddr Tryz.prog 101 (.ptr id off) 1 = some (.ptr id (off + 1)) := by simp [afieldAddr, tfield]
@[simp] theorem fieldAddr101_1c {x : AV} {off : Nat} : afieldAddr Tryz.prog 101 (.cptr x off) 1 = some (.cptr x (off + 1)) := by simp [afieldAddr, tfield]
attribute [simp] Tryz.underlying102
@[simp] theorem tagg102 : tagg Tryz.prog 102 = some false := by kernel_rfl
@[simp] theorem tsize102 : tsize Tryz.prog 102 = some 1 := by kernel_rfl
@[simp] theorem tbytes102 : tbytes Tryz.prog 102 = some 8 := by kernel_rfl
@[simp] theorem tzero102 : tzero Tryz.prog 102 = some (.sc (.nilFunc)) := by kernel_rfl
attribute [simp] Tryz.underlying103
@[simp] theorem tagg103 : tagg Tryz.prog 103 = some false := by kernel_rfl
@[simp] theorem tsize103 : tsize Tryz.prog 103 = some 1 := by kernel_rfl
@[simp] theorem tbytes103 : tbytes Tryz.prog 103 = some 8 := by kernel_rfl
@[simp] theorem tzero103 : tzero Tryz.prog 103 = some (.sc (.nilFunc)) := by kernel_rfl
attribute [simp] Tryz.underlying104
@[simp] theorem tagg104 : tagg Tryz.prog 104 = some false := by kernel_rfl
@[simp] theorem tsize104 : tsize Tryz.prog 104 = some 1 := by kernel_rfl
@[simp] theorem tbytes104 : tbytes Tryz.prog 104 = some 24 := by kernel_rfl
@[simp] theorem tzero104 : tzero Tryz.prog 104 = some (.emp 0) := by kernel_rfl
@[simp] theorem telem104 : telem Tryz.prog 104 = some 108 := by kernel_rfl
@[simp] theorem nofz104 : nofz Tryz.prog 104 = false := by kernel_rfl
attribute [simp] Tryz.underlying106
@[simp] theorem tagg106 : tagg Tryz.prog 106 = some false := by kernel_rfl
@[simp] theorem tsize106 : tsize Tryz.prog 106 = some 1 := by kernel_rfl
@[simp] theorem tbytes106 : tbytes Tryz.prog 106 = some 8 := by kernel_rfl
@[simp] theorem tzero106 : tzero Tryz.prog 106 = some (.sc (.nilFunc)) := by kernel_rfl
attribute [simp] Tryz.underlying107
@[simp] theorem tagg107 : tagg Tryz.prog 107 = some true := by kernel_rfl
@[simp] theorem tsize107 : tsize Tryz.prog 107 = some 7 := by kernel_rfl
@[simp] theorem tbytes107 : tbytes Tryz.prog 107 = some 112 := by kernel_rfl
@[simp] theorem tzero107 : tzero Tryz.prog 107 = some (.agg [.sc (.int .i64 0), .sc (.int .i64 0), .sc (.int .i64 0), .sc (.string ⟨⟨[]⟩⟩), .emp 0, .emp 0, .emp 0]) := by kernel_rfl
@[simp] theorem fieldAddr107_0 {id off : Nat} : afieldAddr Tryz.prog 107 (.ptr id off) 0 = some (.ptr id (off + 0)) := by simp [afieldAddr, tfield]
@[simp] theorem fieldAddr107_0c {x : AV} {off : Nat} : afieldAddr Tryz.prog 107 (.cptr x off) 0 = some (.cptr x (off + 0)) := by simp [afieldAddr, tfield]
@[simp] theorem fieldAddr107_1 {id off : Nat} : afieldAddr Tryz.prog 107 (.ptr id off) 1 = some (.ptr id (off + 1)) := by simp [afieldAddr, tfield]
@[simp] theorem fieldAddr107_1c {x : AV} {off : Nat} : afieldAddr Tryz.prog 107 (.cptr x off) 1 = some (.cptr x (off + 1)) := by simp [afieldAddr, tfield]
attribute [simp] Tryz.underlying108
@[simp] theorem tagg108 : tagg Tryz.prog 108 = some true := by kernel_rfl
@[simp] theorem tsize108 : tsize Tryz.prog 108 = some 7 := by kernel_rfl
@[simp] theorem tbytes108 : tbytes Tryz.prog 108 = some 112 := by kernel_rfl
@[simp] theorem tzero108 : tzero Tryz.prog 108 = some (.agg [.sc (.int .i64 0), .sc (.int .i64 0), .sc (.int .i64 0), .sc (.string ⟨⟨[]⟩⟩), .emp 0, .emp 0, .emp 0]) := by kernel_rfl
@[simp] theorem fieldAddr108_0 {id off : Nat} : afieldAddr Tryz.prog 108 (.ptr id off) 0 = some (.ptr id (off + 0)) := by simp [afieldAddr, tfield]
@[simp] theorem fieldAddr108_0c {x : AV} {off : Nat} : afieldAddr Tryz.prog 108 (.cptr x off) 0 = some (.cptr x (off + 0)) := by simp [afieldAddr, tfield]
@[simp] theorem fieldAddr108_1 {id off : Nat} : afieldAddr Tryz.prog 108 (.ptr id off) 1 = some (.ptr id (off + 1)) := by simp [afieldAddr, tfield]
@[simp] theorem fieldAddr108_1c {x : AV} {off : Nat} : afieldAddr Tryz.prog 108 (.cptr x off) 1 = some (.cptr x (off + 1)) := by simp [afieldAddr, tfield]
attribute [simp] Tryz.underlying109
@[simp] theorem tagg109 : tagg Tryz.prog 109 = some true := by kernel_rfl
@[simp] theorem tsize109 : tsize Tryz.prog 109 = some 3 := by kernel_rfl
@[simp] theorem tbytes109 : tbytes Tryz.prog 109 = some 56 := by kernel_rfl
@[simp] theorem tzero109 : tzero Tryz.prog 109 = some (.agg [.emp 0, .emp 0, .sc (.int .i64 0)]) := by kernel_rfl
@[simp] theorem fieldAddr109_0 {id off : Nat} : afieldAddr Tryz.prog 109 (.ptr id off) 0 = some (.ptr id (off + 0)) := by simp [afieldAddr, tfield]
@[simp] theorem fieldAddr109_0c {x : AV} {off : Nat} : afieldAddr Tryz.prog 109 (.cptr x off) 0 = some (.cptr x (off + 0)) := by simp [afieldAddr, tfield]
@[simp] theorem fieldAddr109_1 {id off : Nat} : afieldAddr Tryz.prog 109 (.ptr id off) 1 = some (.ptr id (off + 1)) := by simp [afieldAddr, tfield]
@[simp] theorem fieldAddr109_1c {x : AV} {off : Nat} : afieldAddr Tryz.prog 109 (.cptr x off) 1 = some (.cptr x (off + 1)) := by simp [afieldAddr, tfield]
@[simp] theorem fieldAddr109_2 {id off : Nat} : afieldAddr Tryz.prog 109 (.ptr id off) 2 = some (.ptr id (off + 2)) := by simp [afieldAddr, tfield]
@[simp] theorem fieldAddr109_2c {x : AV} {off : Nat} : afieldAddr Tryz.prog 109 (.cptr x off) 2 = some (.cptr x (off + 2)) := by simp [afieldAddr, tfield]
attribute [simp] Tryz.underlying110
@[simp] theorem tagg110 : tagg Tryz.prog 110 = some true := by kernel_rfl
@[simp] theorem tsize110 : tsize Tryz.prog 110 = some 3 := by kernel_rfl
@[simp] theorem tbytes110 : tbytes Tryz.prog 110 = some 56 := by kernel_rfl
@[simp] theorem tzero110 : tzero Tryz.prog 110 = some (.agg [.emp 0, .emp 0, .sc (.int .i64 0)]) := by kernel_rfl
@[simp] theorem fieldAddr110_0 {id off : Nat} : afieldAddr Tryz.prog 110 (.ptr id off) 0 = some (.ptr id (off + 0)) := by simp [afieldAddr, tfield]
@[simp] theorem fieldAddr110_0c {x : AV} {off : Nat} : afieldAddr Tryz.prog 110 (.cptr x off) 0 = some (.cptr x (off + 0)) := by simp [afieldAddr, tfield]
@[simp] theorem fieldAddr110_1 {id off : Nat} : afieldAddr Tryz.prog 110 (.ptr id off) 1 = some (.ptr id (off + 1)) := by simp [afieldAddr, tfield]
@[simp] theorem fieldAddr110_1c {x : AV} {off : Nat} : afieldAddr Tryz.prog 110 (.cptr x off) 1 = some (.cptr x (off + 1)) := by simp [afieldAddr, tfield]
@[simp] theorem fieldAddr110_2 {id off : Nat} : afieldAddr Tryz.prog 110 (.ptr id off) 2 = some (.ptr id (off + 2)) := by simp [afieldAddr, tfield]
@[simp] theorem fieldAddr110_2c {x : AV} {off : Nat} : afieldAddr Tryz.prog 110 (.cptr x off) 2 = some (.cptr x (off + 2)) := by simp [afieldAddr, tfield]
attribute [simp] Tryz.underlying111
@[simp] theorem tagg111 : tagg Tryz.prog 111 = some false := by kernel_rfl
@[simp] theorem tsize111 : tsize Tryz.prog 111 = some 1 := by kernel_rfl
@[simp] theorem tbytes111 : tbytes Tryz.prog 111 = some 8 := by kernel_rfl
@[simp] theorem tzero111 : tzero Tryz.prog 111 = some (.sc (.pointer Option.none)) := by kernel_rfl
attribute [simp] Tryz.underlying112
@[simp] theorem tagg112 : tagg Tryz.prog 112 = some false := by kernel_rfl
@[simp] theorem tsize112 : tsize Tryz.prog 112 = some 1 := by kernel_rfl
@[simp] theorem tbytes112 : tbytes Tryz.prog 112 = some 8 := by kernel_rfl
@[simp] theorem tzero112 : tzero Tryz.prog 112 = some (.sc (.nilFunc)) := by kernel_rfl
attribute [simp] Tryz.underlying114
@[simp] theorem tagg114 : tagg Tryz.prog 114 = some false := by kernel_rfl
@[simp] theorem tsize114 : tsize Tryz.prog 114 = some 1 := by kernel_rfl
@[simp] theorem tbytes114 : tbytes Tryz.prog 114 = some 8 := by kernel_rfl
@[simp] theorem tzero114 : tzero Tryz.prog 114 = some (.sc (.nilFunc)) := by kernel_rfl
attribute [simp] Tryz.underlying115
@[simp] theorem tagg115 : tagg Tryz.prog 115 = some false := by kernel_rfl
@[simp] theorem tsize115 : tsize Tryz.prog 115 = some 1 := by kernel_rfl
@[simp] theorem tbytes115 : tbytes Tryz.prog 115 = some 8 := by kernel_rfl
@[simp] theorem tzero115 : tzero Tryz.prog 115 = some (.sc (.nilFunc)) := by kernel_rfl
attribute [simp] Tryz.underlying116
@[simp] theorem tagg116 : tagg Tryz.prog 116 = some false := by kernel_rfl
@[simp] theorem tsize116 : tsize Tryz.prog 116 = some 1 := by kernel_rfl
@[simp] theorem tbytes116 : tbytes Tryz.prog 116 = some 8 := by kernel_rfl
@[simp] theorem tzero116 : tzero Tryz.prog 116 = some (.sc (.nilFunc)) := by kernel_rfl
attribute [simp] Tryz.underlying117
@[simp] theorem tagg117 : tagg Tryz.prog 117 = some false := by kernel_rfl
@[simp] theorem tsize117 : tsize Tryz.prog 117 = some 1 := by kernel_rfl
@[simp] theorem tbytes117 : tbytes Tryz.prog 117 = some 8 := by kernel_rfl
@[simp] theorem tzero117 : tzero Tryz.prog 117 = some (.sc (.nilFunc)) := by kernel_rfl
attribute [simp] Tryz.underlying118
@[simp] theorem tagg118 : tagg Tryz.prog 118 = some false := by kernel_rfl
@[simp] theorem tsize118 : tsize Tryz.prog 118 = some 1 := by kernel_rfl
@[simp] theorem tbytes118 : tbytes Tryz.prog 118 = some 8 := by kernel_rfl
@[simp] theorem tzero118 : tzero Tryz.prog 118 = some (.sc (.nilFunc)) := by kernel_rfl
attribute [simp] Tryz.underlying119
@[simp] theorem tagg119 : tagg Tryz.prog 119 = some false := by kernel_rfl
@[simp] theorem tsize119 : tsize Tryz.prog 119 = some 1 := by kernel_rfl
@[simp] theorem tbytes119 : tbytes Tryz.prog 119 = some 8 := by kernel_rfl
@[simp] theorem tzero119 : tzero Tryz.prog 119 = some (.sc (.nilFunc)) := by kernel_rfl
attribute [simp] Tryz.underlying120
@[simp] theorem tagg120 : tagg Tryz.prog 120 = some false := by kernel_rfl
@[simp] theorem tsize120 : tsize Tryz.prog 120 = some 1 := by kernel_rfl
@[simp] theorem tbytes120 : tbytes Tryz.prog 120 = some 24 := by kernel_rfl
@[simp] theorem tzero120 : tzero Tryz.prog 120 = some (.emp 0) := by kernel_rfl
@[simp] theorem telem120 : telem Tryz.prog 120 = some 23 := by kernel_rfl
@[simp] theorem nofz120 : nofz Tryz.prog 120 = false := by kernel_rfl
attribute [simp] Tryz.underlying121
@[simp] theorem tagg121 : tagg Tryz.prog 121 = some false := by kernel_rfl
@[simp] theorem tsize121 : tsize Tryz.prog 121 = some 1 := by kernel_rfl
@[simp] theorem tbytes121 : tbytes Tryz.prog 121 = some 8 := by kernel_rfl
@[simp] theorem tzero121 : tzero Tryz.prog 121 = some (.sc (.nilFunc)) := by kernel_rfl
attribute [simp] Tryz.underlying122
@[simp] theorem tagg122 : tagg Tryz.prog 122 = some true := by kernel_rfl
@[simp] theorem tsize122 : tsize Tryz.prog 122 = some 3 := by kernel_rfl
@[simp] theorem tbytes122 : tbytes Tryz.prog 122 = some 32 := by kernel_rfl
@[simp] theorem tzero122 : tzero Tryz.prog 122 = some (.agg [.sc (.int .i64 0), .sc (.int .i64 0), .sc (.string ⟨⟨[]⟩⟩)]) := by kernel_rfl
@[simp] theorem fieldAddr122_0 {id off : Nat} : afieldAddr Tryz.prog 122 (.ptr id off) 0 = some (.ptr id (off + 0)) := by simp [afieldAddr, tfield]
@[simp] theorem fieldAddr122_0c {x : AV} {off : Nat} : afieldAddr Tryz.prog 122 (.cptr x off) 0 = some (.cptr x (off + 0)) := by simp [afieldAddr, tfield]
@[simp] theorem fieldAddr122_1 {id off : Nat} : afieldAddr Tryz.prog 122 (.ptr id off) 1 = some (.ptr id (off + 1)) := by simp [afieldAddr, tfield]
@[simp] theorem fieldAddr122_1c {x : AV} {off : Nat} : afieldAddr Tryz.prog 122 (.cptr x off) 1 = some (.cptr x (off + 1)) := by simp [afieldAddr, tfield]
@[simp] theorem fieldAddr122_2 {id off : Nat} : afieldAddr Tryz.prog 122 (.ptr id off) 2 = some (.ptr id (off + 2)) := by simp [afieldAddr, tfield]
@[simp] theorem fieldAddr122_2c {x : AV} {off : Nat} : afieldAddr Tryz.prog 122 (.cptr x off) 2 = some (.cptr x (off + 2)) := by simp [afieldAddr, tfield]
attribute [simp] Tryz.underlying123
@[simp] theorem tagg123 : tagg Tryz.prog 123 = some true := by kernel_rfl
@[simp] theorem tsize123 : tsize Tryz.prog 123 = some 3 := by kernel_rfl
@[simp] theorem tbytes123 : tbytes Tryz.prog 123 = some 32 := by kernel_rfl
@[simp] theorem tzero123 : tzero Tryz.prog 123 = some (.agg [.sc (.int .i64 0), .sc (.int .i64 0), .sc (.string ⟨⟨[]⟩⟩)]) := by kernel_rfl
@[simp] theorem fieldAddr123_0 {id off : Nat} : afieldAddr Tryz.prog 123 (.ptr id off) 0 = some (.ptr id (off + 0)) := by simp [afieldAddr, tfield]
@[simp] theorem fieldAddr123_0c {x : AV} {off : Nat} : afieldAddr Tryz.prog 123 (.cptr x off) 0 = some (.cptr x (off + 0)) := by simp [afieldAddr, tfield]
@[simp] theorem fieldAddr123_1 {id off : Nat} : afieldAddr Tryz.prog 123 (.ptr id off) 1 = some (.ptr id (off + 1)) := by simp [afieldAddr, tfield]
@[simp] theorem fieldAddr123_1c {x : AV} {off : Nat} : afieldAddr Tryz.prog 123 (.cptr x off) 1 = some (.cptr x (off + 1)) := by simp [afieldAddr, tfield]
@[simp] theorem fieldAddr123_2 {id off : Nat} : afieldAddr Tryz.prog 123 (.ptr id off) 2 = some (.ptr id (off + 2)) := by simp [afieldAddr, tfield]
@[simp] theorem fieldAddr123_2c {x : AV} {off : Nat} : afieldAddr Tryz.prog 123 (.cptr x off) 2 = some (.cptr x (off + 2)) := by simp [afieldAddr, tfield]
attribute [simp] Tryz.underlying125
@[simp] theorem tagg125 : tagg Tryz.prog 125 = some false := by kernel_rfl
@[simp] theorem tsize125 : tsize Tryz.prog 125 = some 1 := by kernel_rfl
@[simp] theorem tbytes125 : tbytes Tryz.prog 125 = some 8 := by kernel_rfl
@[simp] theorem tzero125 : tzero Tryz.prog 125 = some (.sc (.nilFunc)) := by kernel_rfl
attribute [simp] Tryz.underlying127
@[simp] theorem tagg127 : tagg Tryz.prog 127 = some false := by kernel_rfl
@[simp] theorem tsize127 : tsize Tryz.prog 127 = some 1 := by kernel_rfl
@[simp] theorem tbytes127 : tbytes Tryz.prog 127 = some 8 := by kernel_rfl
@[simp] theorem tzero127 : tzero Tryz.prog 127 = some (.sc (.nilFunc)) := by kernel_rfl
attribute [simp] Tryz.underlying128
@[simp] theorem tagg128 : tagg Tryz.prog 128 = some false := by kernel_rfl
@[simp] theorem tsize128 : tsize Tryz.prog 128 = some 1 := by kernel_rfl
@[simp] theorem tbytes128 : tbytes Tryz.prog 128 = some 8 := by kernel_rfl
@[simp] theorem tzero128 : tzero Tryz.prog 128 = some (.sc (.nilFunc)) := by kernel_rfl
attribute [simp] Tryz.underlying129
@[simp] theorem tagg129 : tagg Tryz.prog 129 = some false := by kernel_rfl
@[simp] theorem tsize129 : tsize Tryz.prog 129 = some 1 := by kernel_rfl
@[simp] theorem tbytes129 : tbytes Tryz.prog 129 = some 8 := by kernel_rfl
@[simp] theorem tzero129 : tzero Tryz.prog 129 = some (.sc (.nilFunc)) := by kernel_rfl
attribute [simp] Tryz.underlying130
@[simp] theorem tagg130 : tagg Tryz.prog 130 = some false := by kernel_rfl
@[simp] theorem tsize130 : tsize Tryz.prog 130 = some 1 := by kernel_rfl
@[simp] theorem tbytes130 : tbytes Tryz.prog 130 = some 8 := by kernel_rfl
@[simp] theorem tzero130 : tzero Tryz.prog 130 = some (.sc (.nilFunc)) := by kernel_rfl
attribute [simp] Tryz.underlying131
@[simp] theorem tagg131 : tagg Tryz.prog 131 = some false := by kernel_rfl
@[simp] theorem tsize131 : tsize Tryz.prog 131 = some 1 := by kernel_rfl
@[simp] theorem tbytes131 : tbytes Tryz.prog 131 = some 8 := by kernel_rfl
@[simp] theorem tzero131 : tzero Tryz.prog 131 = some (.sc (.nilFunc)) := by kernel_rfl
attribute [simp] Tryz.underlying132
@[simp] theorem tagg132 : tagg Tryz.prog 132 = some false := by kernel_rfl
@[simp] theorem tsize132 : tsize Tryz.prog 132 = some 1 := by kernel_rfl
@[simp] theorem tbytes132 : tbytes Tryz.prog 132 = some 8 := by kernel_rfl
@[simp] theorem tzero132 : tzero Tryz.prog 132 = some (.sc (.nilFunc)) := by kernel_rfl
attribute [simp] Tryz.underlying133
@[simp] theorem tagg133 : tagg Tryz.prog 133 = some false := by kernel_rfl
@[simp] theorem tsize133 : tsize Tryz.prog 133 = some 1 := by kernel_rfl
@[simp] theorem tbytes133 : tbytes Tryz.prog 133 = some 8 := by kernel_rfl
@[simp] theorem tzero133 : tzero Tryz.prog 133 = some (.sc (.nilFunc)) := by kernel_rfl
attribute [simp] Tryz.underlying134
@[simp] theorem tagg134 : tagg Tryz.prog 134 = some false := by kernel_rfl
@[simp] theorem tsize134 : tsize Tryz.prog 134 = some 1 := by kernel_rfl
@[simp] theorem tbytes134 : tbytes Tryz.prog 134 = some 8 := by kernel_rfl
@[simp] theorem tzero134 : tzero Tryz.prog 134 = some (.sc (.nilFunc)) := by kernel_rfl
attribute [simp] Tryz.underlying136
@[simp] theorem tagg136 : tagg Tryz.prog 136 = some false := by kernel_rfl
@[simp] theorem tsize136 : tsize Tryz.prog 136 = some 1 := by kernel_rfl
@[simp] theorem tbytes136 : tbytes Tryz.prog 136 = some 8 := by kernel_rfl
@[simp] theorem tzero136 : tzero Tryz.prog 136 = some (.sc (.map Option.none)) := by kernel_rfl
@[simp] theorem tmap136 : tmap Tryz.prog 136 = some (9, 134) := by kernel_rfl
attribute [simp] Tryz.underlying137
@[simp] theorem tagg137 : tagg Tryz.prog 137 = some false := by kernel_rfl
@[simp] theorem tsize137 : tsize Tryz.prog 137 = some 1 := by kernel_rfl
@[simp] theorem tbytes137 : tbytes Tryz.prog 137 = some 8 := by kernel_rfl
@[simp] theorem tzero137 : tzero Tryz.prog 137 = some (.sc (.nilFunc)) := by kernel_rfl
attribute [simp] Tryz.underlying139
@[simp] theorem tagg139 : tagg Tryz.prog 139 = some false := by kernel_rfl
@[simp] theorem tsize139 : tsize Tryz.prog 139 = some 1 := by kernel_rfl
@[simp] theorem tbytes139 : tbytes Tryz.prog 139 = some 8 := by kernel_rfl
@[simp] theorem tzero139 : tzero Tryz.prog 139 = some (.sc (.nilFunc)) := by kernel_rfl
attribute [simp] Tryz.underlying141
@[simp] theorem tagg141 : tagg Tryz.prog 141 = some false := by kernel_rfl
@[simp] theorem tsize141 : tsize Tryz.prog 141 = some 1 := by kernel_rfl
@[simp] theorem tbytes141 : tbytes Tryz.prog 141 = some 8 := by kernel_rfl
@[simp] theorem tzero141 : tzero Tryz.prog 141 = some (.sc (.nilFunc)) := by kernel_rfl
attribute [simp] Tryz.underlying143
@[simp] theorem tagg143 : tagg Tryz.prog 143 = some false := by kernel_rfl
@[simp] theorem tsize143 : tsize Tryz.prog 143 = some 1 := by kernel_rfl
@[simp] theorem tbytes143 : tbytes Tryz.prog 143 = some 8 := by kernel_rfl
@[simp] theorem tzero143 : tzero Tryz.prog 143 = some (.sc (.nilFunc)) := by kernel_rfl
attribute [simp] Tryz.underlying144
@[simp] theorem tagg144 : tagg Tryz.prog 144 = some false := by kernel_rfl
@[simp] theorem tsize144 : tsize Tryz.prog 144 = some 1 := by kernel_rfl
@[simp] theorem tbytes144 : tbytes Tryz.prog 144 = some 8 := by kernel_rfl
@[simp] theorem tzero144 : tzero Tryz.prog 144 = some (.sc (.nilFunc)) := by kernel_rfl
attribute [simp] Tryz.underlying145
@[simp] theorem tagg145 : tagg Tryz.prog 145 = some false := by kernel_rfl
@[simp] theorem tsize145 : tsize Tryz.prog 145 = some 1 := by kernel_rfl
@[simp] theorem tbytes145 : tbytes Tryz.prog 145 = some 8 := by kernel_rfl
@[simp] theorem tzero145 : tzero Tryz.prog 145 = some (.sc (.map Option.none)) := by kernel_rfl
@[simp] theorem tmap145 : tmap Tryz.prog 145 = some (3, 4) := by kernel_rfl
attribute [simp] Tryz.underlying146
@[simp] theorem tagg146 : tagg Tryz.prog 146 = some false := by kernel_rfl
@[simp] theorem tsize146 : tsize Tryz.prog 146 = some 1 := by kernel_rfl
@[simp] theorem tbytes146 : tbytes Tryz.prog 146 = some 8 := by kernel_rfl
@[simp] theorem tzero146 : tzero Tryz.prog 146 = some (.sc (.nilFunc)) := by kernel_rfl
attribute [simp] Tryz.underlying147
@[simp] theorem tagg147 : tagg Tryz.prog 147 = some true := by kernel_rfl
@[simp] theorem tsize147 : tsize Tryz.prog 147 = some 6 := by kernel_rfl
@[simp] theorem tbytes147 : tbytes Tryz.prog 147 = some 48 := by kernel_rfl
@[simp] theorem tzero147 : tzero Tryz.prog 147 = some (.agg [.sc (.int .i64 0), .sc (.map Option.none), .sc (.map Option.none), .sc (.map Option.none), .sc (.nilFunc), .sc (.bool false)]) := by kernel_rfl
@[simp] theorem fieldAddr147_0 {id off : Nat} : afieldAddr Tryz.prog 147 (.ptr id off) 0 = some (.ptr id (off + 0)) := by simp [afieldAddr, tfield]
@[simp] theorem fieldAddr147_0c {x : AV} {off : Nat} : afieldAddr Tryz.prog 147 (.cptr x off) 0 = some (.cptr x (off + 0)) := by simp [afieldAddr, tfield]
@[simp] theorem fieldAddr147_1 {id off : Nat} : afieldAddr Tryz.prog 147 (.ptr id off) 1 = some (.ptr id (off + 1)) := by simp [afieldAddr, tfield]
@[simp] theorem fieldAddr147_1c {x : AV} {off : Nat} : afieldAddr Tryz.prog 147 (.cptr x off) 1 = some (.cptr x (off + 1)) := by simp [afieldAddr, tfield]
@[simp] theorem fieldAddr147_2 {id off : Nat} : afieldAddr Tryz.prog 147 (.ptr id off) 2 = some (.ptr id (off + 2)) := by simp [afieldAddr, tfield]
@[simp] theorem fieldAddr147_2c {x : AV} {off : Nat} : afieldAddr Tryz.prog 147 (.cptr x off) 2 = some (.cptr x (off + 2)) := by simp [afieldAddr, tfield]
@[simp] theorem fieldAddr147_3 {id off : Nat} : afieldAddr Tryz.prog 147 (.ptr id off) 3 = some (.ptr id (off + 3)) := by simp [afieldAddr, tfield]
@[simp] theorem fieldAddr147_3c {x : AV} {off : Nat} : afieldAddr Tryz.prog 147 (.cptr x off) 3 = some (.cptr x (off + 3)) := by simp [afieldAddr, tfield]
@[simp] theorem fieldAddr147_4 {id off : Nat} : afieldAddr Tryz.prog 147 (.ptr id off) 4 = some (.ptr id (off + 4)) := by simp [afieldAddr, tfield]
@[simp] theorem fieldAddr147_4c {x : AV} {off : Nat} : afieldAddr Tryz.prog 147 (.cptr x off) 4 = some (.cptr x (off + 4)) := by simp [afieldAddr, tfield]
@[simp] theorem fieldAddr147_5 {id off : Nat} : afieldAddr Tryz.prog 147 (.ptr id off) 5 = some (.ptr id (off + 5)) := by simp [afieldAddr, tfield]
@[simp] theorem fieldAddr147_5c {x : AV} {off : Nat} : afieldAddr Tryz.prog 147 (.cptr x off) 5 = some (.cptr x (off + 5)) := by simp [afieldAddr, tfield]
attribute [simp] Tryz.underlying148
@[simp] theorem tagg148 : tagg Tryz.prog 148 = some true := by kernel_rfl
@[simp] theorem tsize148 : tsize Tryz.prog 148 = some 6 := by kernel_rfl
@[simp] theorem tbytes148 : tbytes Tryz.prog 148 = some 48 := by kernel_rfl
@[simp] theorem tzero148 : tzero Tryz.prog 148 = some (.agg [.sc (.int .i64 0), .sc (.map Option.none), .sc (.map Option.none), .sc (.map Option.none), .sc (.nilFunc), .sc (.bool false)]) := by kernel_rfl
@[simp] theorem fieldAddr148_0 {id off : Nat} : afieldAddr Tryz.prog 148 (.ptr id off) 0 = some (.ptr id (off + 0)) := by simp [afieldAddr, tfield]
@[simp] theorem fieldAddr148_0c {x : AV} {off : Nat} : afieldAddr Tryz.prog 148 (.cptr x off) 0 = some (.cptr x (off + 0)) := by simp [afieldAddr, tfield]
@[simp] theorem fieldAddr148_1 {id off : Nat} : afieldAddr Tryz.prog 148 (.ptr id off) 1 = some (.ptr id (off + 1)) := by simp [afieldAddr, tfield]
@[simp] theorem fieldAddr148_1c {x : AV} {off : Nat} : afieldAddr Tryz.prog 148 (.cptr x off) 1 = some (.cptr x (off + 1)) := by simp [afieldAddr, tfield]
@[simp] theorem fieldAddr148_2 {id off : Nat} : afieldAddr Tryz.prog 148 (.ptr id off) 2 = some (.ptr id (off + 2)) := by simp [afieldAddr, tfield]
@[simp] theorem fieldAddr148_2c {x : AV} {off : Nat} : afieldAddr Tryz.prog 148 (.cptr x off) 2 = some (.cptr x (off + 2)) := by simp [afieldAddr, tfield]
@[simp] theorem fieldAddr148_3 {id off : Nat} : afieldAddr Tryz.prog 148 (.ptr id off) 3 = some (.ptr id (off + 3)) := by simp [afieldAddr, tfield]
@[simp] theorem fieldAddr148_3c {x : AV} {off : Nat} : afieldAddr Tryz.prog 148 (.cptr x off) 3 = some (.cptr x (off + 3)) := by simp [afieldAddr, tfield]
@[simp] theorem fieldAddr148_4 {id off : Nat} : afieldAddr Tryz.prog 148 (.ptr id off) 4 = some (.ptr id (off + 4)) := by simp [afieldAddr, tfield]
@[simp] theorem fieldAddr148_4c {x : AV} {off : Nat} : afieldAddr Tryz.prog 148 (.cptr x off) 4 = some (.cptr x (off + 4)) := by simp [afieldAddr, tfield]
@[simp] theorem fieldAddr148_5 {id off : Nat} : afieldAddr Tryz.prog 148 (.ptr id off) 5 = some (.ptr id (off + 5)) := by simp [afieldAddr, tfield]
@[simp] theorem fieldAddr148_5c {x : AV} {off : Nat} : afieldAddr Tryz.prog 148 (.cptr x off) 5 = some (.cptr x (off + 5)) := by simp [afieldAddr, tfield]
attribute [simp] Tryz.underlying149
@[simp] theorem tagg149 : tagg Tryz.prog 149 = some false := by kernel_rfl
@[simp] theorem tsize149 : tsize Tryz.prog 149 = some 1 := by kernel_rfl
@[simp] theorem tbytes149 : tbytes Tryz.prog 149 = some 8 := by kernel_rfl
@[simp] theorem tzero149 : tzero Tryz.prog 149 = some (.sc (.nilFunc)) := by kernel_rfl
attribute [simp] Tryz.underlying150
@[simp] theorem tagg150 : tagg Tryz.prog 150 = some false := by kernel_rfl
@[simp] theorem tsize150 : tsize Tryz.prog 150 = some 1 := by kernel_rfl
@[simp] theorem tbytes150 : tbytes Tryz.prog 150 = some 8 := by kernel_rfl
@[simp] theorem tzero150 : tzero Tryz.prog 150 = some (.sc (.nilFunc)) := by kernel_rfl
attribute [simp] Tryz.underlying151
@[simp] theorem tagg151 : tagg Tryz.prog 151 = some false := by kernel_rfl
@[simp] theorem tsize151 : tsize Tryz.prog 151 = some 1 := by kernel_rfl
@[simp] theorem tbytes151 : tbytes Tryz.prog 151 = some 8 := by kernel_rfl
@[simp] theorem tzero151 : tzero Tryz.prog 151 = some (.sc (.nilFunc)) := by kernel_rfl
attribute [simp] Tryz.underlying152
@[simp] theorem tagg152 : tagg Tryz.prog 152 = some false := by kernel_rfl
@[simp] theorem tsize152 : tsize Tryz.prog 152 = some 1 := by kernel_rfl
@[simp] theorem tbytes152 : tbytes Tryz.prog 152 = some 8 := by kernel_rfl
@[simp] theorem tzero152 : tzero Tryz.prog 152 = some (.sc (.int .u64 0)) := by kernel_rfl
attribute [simp] Tryz.underlying153
@[simp] theorem tagg153 : tagg Tryz.prog 153 = some false := by kernel_rfl
@[simp] theorem tsize153 : tsize Tryz.prog 153 = some 1 := by kernel_rfl
@[simp] theorem tbytes153 : tbytes Tryz.prog 153 = some 24 := by kernel_rfl
@[simp] theorem tzero153 : tzero Tryz.prog 153 = some (.emp 0) := by kernel_rfl
@[simp] theorem telem153 : telem Tryz.prog 153 = some 160 := by kernel_rfl
@[simp] theorem nofz153 : nofz Tryz.prog 153 = false := by kernel_rfl
attribute [simp] Tryz.underlying155
@[simp] theorem tagg155 : tagg Tryz.prog 155 = some false := by kernel_rfl
@[simp] theorem tsize155 : tsize Tryz.prog 155 = some 1 := by kernel_rfl
@[simp] theorem tbytes155 : tbytes Tryz.prog 155 = some 8 := by kernel_rfl
@[simp] theorem tzero155 : tzero Tryz.prog 155 = some (.sc (.nilFunc)) := by kernel_rfl
attribute [simp] Tryz.underlying156
@[simp] theorem tagg156 : tagg Tryz.prog 156 = some false := by kernel_rfl
@[simp] theorem tsize156 : tsize Tryz.prog 156 = some 1 := by kernel_rfl
@[simp] theorem tbytes156 : tbytes Tryz.prog 156 = some 8 := by kernel_rfl
@[simp] theorem tzero156 : tzero Tryz.prog 156 = some (.sc (.pointer Option.none)) := by kernel_rfl
attribute [simp] Tryz.underlying157
@[simp] theorem tagg157 : tagg Tryz.prog 157 = some true := by kernel_rfl
@[simp] theorem tsize157 : tsize Tryz.prog 157 = some 2 := by kernel_rfl
@[simp] theorem tbytes157 : tbytes Tryz.prog 157 = some 32 := by kernel_rfl
@[simp] theorem tzero157 : tzero Tryz.prog 157 = some (.agg [.emp 0, .sc (.int .i64 0)]) := by kernel_rfl
@[simp] theorem fieldAddr157_0 {id off : Nat} : afieldAddr Tryz.prog 157 (.ptr id off) 0 = some (.ptr id (off + 0)) := by simp [afieldAddr, tfield]
@[simp] theorem fieldAddr157_0c {x : AV} {off : Nat} : afieldAddr Tryz.prog 157 (.cptr x off) 0 = some (.cptr x (off + 0)) := by simp [afieldAddr, tfield]
@[simp] theorem fieldAddr157_1 {id off : Nat} : afieldAddr Tryz.prog 157 (.ptr id off) 1 = some (.ptr id (off + 1)) := by simp [afieldAddr, tfield]
@[simp] theorem fieldAddr157_1c {x : AV} {off : Nat} : afieldAddr Tryz.prog 157 (.cptr x off) 1 = some (.cptr x (off + 1)) := by simp [afieldAddr, tfield]
attribute [simp] Tryz.underlying158
@[simp] theorem tagg158 : tagg Tryz.prog 158 = some true := by kernel_rfl
@[simp] theorem tsize158 : tsize Tryz.prog 158 = some 2 := by kernel_rfl
@[simp] theorem tbytes158 : tbytes Tryz.prog 158 = some 32 := by kernel_rfl
@[simp] theorem tzero158 : tzero Tryz.prog 158 = some (.agg [.emp 0, .sc (.int .i64 0)]) := by kernel_rfl
@[simp] theorem fieldAddr158_0 {id off : Nat} : afieldAddr Tryz.prog 158 (.ptr id off) 0 = some (.ptr id (off + 0)) := by simp [afieldAddr, tfield]
@[simp] theorem fieldAddr158_0c {x : AV} {off : Nat} : afieldAddr Tryz.prog 158 (.cptr x off) 0 = some (.cptr x (off + 0)) := by simp [afieldAddr, tfield]
@[simp] theorem fieldAddr158_1 {id off : Nat} : afieldAddr Tryz.prog 158 (.ptr id off) 1 = some (.ptr id (off + 1)) := by simp [afieldAddr, tfield]
@[simp] theorem fieldAddr158_1c {x : AV} {off : Nat} : afieldAddr Tryz.prog 158 (.cptr x off) 1 = some (.cptr x (off + 1)) := by simp [afieldAddr, tfield]
attribute [simp] Tryz.underlying159
@[simp] theorem tagg159 : tagg Tryz.prog 159 = some true := by kernel_rfl
@[simp] theorem tsize159 : tsize Tryz.prog 159 = some 5 := by kernel_rfl
@[simp] theorem tbytes159 : tbytes Tryz.prog 159 = some 48 := by kernel_rfl
@[simp] theorem tzero159 : tzero Tryz.prog 159 = some (.agg [.sc (.int .i64 0), .sc (.int .i64 0), .sc (.int .i64 0), .sc (.int .i64 0), .sc (.string ⟨⟨[]⟩⟩)]) := by kernel_rfl
@[simp] theorem fieldAddr159_0 {id off : Nat} : afieldAddr Tryz.prog 159 (.ptr id off) 0 = some (.ptr id (off + 0)) := by simp [afieldAddr, tfield]
@[simp] theorem fieldAddr159_0c {x : AV} {off : Nat} : afieldAddr Tryz.prog 159 (.cptr x off) 0 = some (.cptr x (off + 0)) := by simp [afieldAddr, tfield]
@[simp] theorem fieldAddr159_1 {id off : Nat} : afieldAddr Tryz.prog 159 (.ptr id off) 1 = some (.ptr id (off + 1)) := by simp [afieldAddr, tfield]
@[simp] theorem fieldAddr159_1c {x : AV} {off : Nat} : afieldAddr Tryz.prog 159 (.cptr x off) 1 = some (.cptr x (off + 1)) := by simp [afieldAddr, tfield]
@[simp] theorem fieldAddr159_2 {id off : Nat} : afieldAddr Tryz.prog 159 (.ptr id off) 2 = some (.ptr id (off + 2)) := by simp [afieldAddr, tfield]
@[simp] theorem fieldAddr159_2c {x : AV} {off : Nat} : afieldAddr Tryz.prog 159 (.cptr x off) 2 = some (.cptr x (off + 2)) := by simp [afieldAddr, tfield]
@[simp] theorem fieldAddr159_3 {id off : Nat} : afieldAddr Tryz.prog 159 (.ptr id off) 3 = some (.ptr id (off + 3)) := by simp [afieldAddr, tfield]
@[simp] theorem fieldAddr159_3c {x : AV} {off : Nat} : afieldAddr Tryz.prog 159 (.cptr x off) 3 = some (.cptr x (off + 3)) := by simp [afieldAddr, tfield]
@[simp] theorem fieldAddr159_4 {id off : Nat} : afieldAddr Tryz.prog 159 (.ptr id off) 4 = some (.ptr id (off + 4)) := by simp [afieldAddr, tfield]
@[simp] theorem fieldAddr159_4c {x : AV} {off : Nat} : afieldAddr Tryz.prog 159 (.cptr x off) 4 = some (.cptr x (off + 4)) := by simp [afieldAddr, tfield]
attribute [simp] Tryz.underlying160
@[simp] theorem tagg160 : tagg Tryz.prog 160 = some true := by kernel_rfl
@[simp] theorem tsize160 : tsize Tryz.prog 160 = some 5 := by kernel_rfl
@[simp] theorem tbytes160 : tbytes Tryz.prog 160 = some 48 := by kernel_rfl
@[simp] theorem tzero160 : tzero Tryz.prog 160 = some (.agg [.sc (.int .i64 0), .sc (.int .i64 0), .sc (.int .i64 0), .sc (.int .i64 0), .sc (.string ⟨⟨[]⟩⟩)]) := by kernel_rfl
@[simp] theorem fieldAddr160_0 {id off : Nat} : afieldAddr Tryz.prog 160 (.ptr id off) 0 = some (.ptr id (off + 0)) := by simp [afieldAddr, tfield]
@[simp] theorem fieldAddr160_0c {x : AV} {off : Nat} : afieldAddr Tryz.prog 160 (.cptr x off) 0 = some (.cptr x (off + 0)) := by simp [afieldAddr, tfield]
@[simp] theorem fieldAddr160_1 {id off : Nat} : afieldAddr Tryz.prog 160 (.ptr id off) 1 = some (.ptr id (off + 1)) := by simp [afieldAddr, tfield]
@[simp] theorem fieldAddr160_1c {x : AV} {off : Nat} : afieldAddr Tryz.prog 160 (.cptr x off) 1 = some (.cptr x (off + 1)) := by simp [afieldAddr, tfield]
@[simp] theorem fieldAddr160_2 {id off : Nat} : afieldAddr Tryz.prog 160 (.ptr id off) 2 = some (.ptr id (off + 2)) := by simp [afieldAddr, tfield]
@[simp] theorem fieldAddr160_2c {x : AV} {off : Nat} : afieldAddr Tryz.prog 160 (.cptr x off) 2 = some (.cptr x (off + 2)) := by simp [afieldAddr, tfield]
@[simp] theorem fieldAddr160_3 {id off : Nat} : afieldAddr Tryz.prog 160 (.ptr id off) 3 = some (.ptr id (off + 3)) := by simp [afieldAddr, tfield]
@[simp] theorem fieldAddr160_3c {x : AV} {off : Nat} : afieldAddr Tryz.prog 160 (.cptr x off) 3 = some (.cptr x (off + 3)) := by simp [afieldAddr, tfield]
@[simp] theorem fieldAddr160_4 {id off : Nat} : afieldAddr Tryz.prog 160 (.ptr id off) 4 = some (.ptr id (off + 4)) := by simp [afieldAddr, tfield]
@[simp] theorem fieldAddr160_4c {x : AV} {off : Nat} : afieldAddr Tryz.prog 160 (.cptr x off) 4 = some (.cptr x (off + 4)) := by simp [afieldAddr, tfield]
attribute [simp] Tryz.underlying161
@[simp] theorem tagg161 : tagg Tryz.prog 161 = some false := by kernel_rfl
@[simp] theorem tsize161 : tsize Tryz.prog 161 = some 1 := by kernel_rfl
@[simp] theorem tbytes161 : tbytes Tryz.prog 161 = some 8 := by kernel_rfl
@[simp] theorem tzero161 : tzero Tryz.prog 161 = some (.sc (.nilFunc)) := by kernel_rfl
attribute [simp] Tryz.underlying162
@[simp] theorem tagg162 : tagg Tryz.prog 162 = some false := by kernel_rfl
@[simp] theorem tsize162 : tsize Tryz.prog 162 = some 1 := by kernel_rfl
@[simp] theorem tbytes162 : tbytes Tryz.prog 162 = some 8 := by kernel_rfl
@[simp] theorem tzero162 : tzero Tryz.prog 162 = some (.sc (.nilFunc)) := by kernel_rfl
attribute [simp] Tryz.underlying163
@[simp] theorem tagg163 : tagg Tryz.prog 163 = some false := by kernel_rfl
@[simp] theorem tsize163 : tsize Tryz.prog 163 = some 1 := by kernel_rfl
@[simp] theorem tbytes163 : tbytes Tryz.prog 163 = some 8 := by kernel_rfl
@[simp] theorem tzero163 : tzero Tryz.prog 163 = some (.sc (.nilFunc)) := by kernel_rfl
attribute [simp] Tryz.underlying164
@[simp] theorem tagg164 : tagg Tryz.prog 164 = some false := by kernel_rfl
@[simp] theorem tsize164 : tsize Tryz.prog 164 = some 1 := by kernel_rfl
@[simp] theorem tbytes164 : tbytes Tryz.prog 164 = some 8 := by kernel_rfl
@[simp] theorem tzero164 : tzero Tryz.prog 164 = some (.sc (.pointer Option.none)) := by kernel_rfl
attribute [simp] Tryz.underlying165
@[simp] theorem tagg165 : tagg Tryz.prog 165 = some true := by kernel_rfl
@[simp] theorem tsize165 : tsize Tryz.prog 165 = some 4 := by kernel_rfl
@[simp] theorem tbytes165 : tbytes Tryz.prog 165 = some 64 := by kernel_rfl
@[simp] theorem tzero165 : tzero Tryz.prog 165 = some (.agg [.emp 0, .emp 0, .sc (.int .i64 0), .sc (.bool false)]) := by kernel_rfl
@[simp] theorem fieldAddr165_0 {id off : Nat} : afieldAddr Tryz.prog 165 (.ptr id off) 0 = some (.ptr id (off + 0)) := by simp [afieldAddr, tfield]
@[simp] theorem fieldAddr165_0c {x : AV} {off : Nat} : afieldAddr Tryz.prog 165 (.cptr x off) 0 = some (.cptr x (off + 0)) := by simp [afieldAddr, tfield]
@[simp] theorem fieldAddr165_1 {id off : Nat} : afieldAddr Tryz.prog 165 (.ptr id off) 1 = some (.ptr id (off + 1)) := by simp [afieldAddr, tfield]
@[simp] theorem fieldAddr165_1c {x : AV} {off : Nat} : afieldAddr Tryz.prog 165 (.cptr x off) 1 = some (.cptr x (off + 1)) := by simp [afieldAddr, tfield]
@[simp] theorem fieldAddr165_2 {id off : Nat} : afieldAddr Tryz.prog 165 (.ptr id off) 2 = some (.ptr id (off + 2)) := by simp [afieldAddr, tfield]
@[simp] theorem fieldAddr165_2c {x : AV} {off : Nat} : afieldAddr Tryz.prog 165 (.cptr x off) 2 = some (.cptr x (off + 2)) := by simp [afieldAddr, tfield]
@[simp] theorem fieldAddr165_3 {id off : Nat} : afieldAddr Tryz.prog 165 (.ptr id off) 3 = some (.ptr id (off + 3)) := by simp [afieldAddr, tfield]
@[simp] theorem fieldAddr165_3c {x : AV} {off : Nat} : afieldAddr Tryz.prog 165 (.cptr x off) 3 = some (.cptr x (off + 3)) := by simp [afieldAddr, tfield]
attribute [simp] Tryz.underlying166
@[simp] theorem tagg166 : tagg Tryz.prog 166 = some true := by kernel_rfl
@[simp] theorem tsize166 : tsize Tryz.prog 166 = some 4 := by kernel_rfl
@[simp] theorem tbytes166 : tbytes Tryz.prog 166 = some 64 := by kernel_rfl
@[simp] theorem tzero166 : tzero Tryz.prog 166 = some (.agg [.emp 0, .emp 0, .sc (.int .i64 0), .sc (.bool false)]) := by kernel_rfl
@[simp] theorem fieldAddr166_0 {id off : Nat} : afieldAddr Tryz.prog 166 (.ptr id off) 0 = some (.ptr id (off + 0)) := by simp [afieldAddr, tfield]
@[simp] theorem fieldAddr166_0c {x : AV} {off : Nat} : afieldAddr Tryz.prog 166 (.cptr x off) 0 = some (.cptr x (off + 0)) := by simp [afieldAddr, tfield]
@[simp] theorem fieldAddr166_1 {id off : Nat} : afieldAddr Tryz.prog 166 (.ptr id off) 1 = some (.ptr id (off + 1)) := by simp [afieldAddr, tfield]
@[simp] theorem fieldAddr166_1c {x : AV} {off : Nat} : afieldAddr Tryz.prog 166 (.cptr x off) 1 = some (.cptr x (off + 1)) := by simp [afieldAddr, tfield]
@[simp] theorem fieldAddr166_2 {id off : Nat} : afieldAddr Tryz.prog 166 (.ptr id off) 2 = some (.ptr id (off + 2)) := by simp [afieldAddr, tfield]
@[simp] theorem fieldAddr166_2c {x : AV} {off : Nat} : afieldAddr Tryz.prog 166 (.cptr x off) 2 = some (.cptr x (off + 2)) := by simp [afieldAddr, tfield]
@[simp] theorem fieldAddr166_3 {id off : Nat} : afieldAddr Tryz.prog 166 (.ptr id off) 3 = some (.ptr id (off + 3)) := by simp [afieldAddr, tfield]
@[simp] theorem fieldAddr166_3c {x : AV} {off : Nat} : afieldAddr Tryz.prog 166 (.cptr x off) 3 = some (.cptr x (off + 3)) := by simp [afieldAddr, tfield]
attribute [simp] Tryz.underlying167
@[simp] theorem tagg167 : tagg Tryz.prog 167 = some false := by kernel_rfl
@[simp] theorem tsize167 : tsize Tryz.prog 167 = some 1 := by kernel_rfl
@[simp] theorem tbytes167 : tbytes Tryz.prog 167 = some 8 := by kernel_rfl
@[simp] theorem tzero167 : tzero Tryz.prog 167 = some (.sc (.nilFunc)) := by kernel_rfl
attribute [simp] Tryz.underlying168
@[simp] theorem tagg168 : tagg Tryz.prog 168 = some false := by kernel_rfl
@[simp] theorem tsize168 : tsize Tryz.prog 168 = some 1 := by kernel_rfl
@[simp] theorem tbytes168 : tbytes Tryz.prog 168 = some 8 := by kernel_rfl
@[simp] theorem tzero168 : tzero Tryz.prog 168 = some (.sc (.nilFunc)) := by kernel_rfl
attribute [simp] Tryz.underlying169
@[simp] theorem tagg169 : tagg Tryz.prog 169 = some false := by kernel_rfl
@[simp] theorem tsize169 : tsize Tryz.prog 169 = some 1 := by kernel_rfl
@[simp] theorem tbytes169 : tbytes Tryz.prog 169 = some 8 := by kernel_rfl
@[simp] theorem tzero169 : tzero Tryz.prog 169 = some (.sc (.nilFunc)) := by kernel_rfl
attribute [simp] Tryz.underlying170
@[simp] theorem tagg170 : tagg Tryz.prog 170 = some false := by kernel_rfl
@[simp] theorem tsize170 : tsize Tryz.prog 170 = some 1 := by kernel_rfl
@[simp] theorem tbytes170 : tbytes Tryz.prog 170 = some 8 := by kernel_rfl
@[simp] theorem tzero170 : tzero Tryz.prog 170 = some (.sc (.nilFunc)) := by kernel_rfl
attribute [simp] Tryz.underlying171
@[simp] theorem tagg171 : tagg Tryz.prog 171 = some false := by kernel_rfl
@[simp] theorem tsize171 : tsize Tryz.prog 171 = some 1 := by kernel_rfl
@[simp] theorem tbytes171 : tbytes Tryz.prog 171 = some 8 := by kernel_rfl
@[simp] theorem tzero171 : tzero Tryz.prog 171 = some (.sc (.nilFunc)) := by kernel_rfl
attribute [simp] Tryz.underlying172
@[simp] theorem tagg172 : tagg Tryz.prog 172 = some false := by kernel_rfl
@[simp] theorem tsize172 : tsize Tryz.prog 172 = some 1 := by kernel_rfl
@[simp] theorem tbytes172 : tbytes Tryz.prog 172 = some 8 := by kernel_rfl
@[simp] theorem tzero172 : tzero Tryz.prog 172 = some (.sc (.nilFunc)) := by kernel_rfl
attribute [simp] Tryz.underlying173
@[simp] theorem tagg173 : tagg Tryz.prog 173 = some false := by kernel_rfl
@[simp] theorem tsize173 : tsize Tryz.prog 173 = some 1 := by kernel_rfl
@[simp] theorem tbytes173 : tbytes Tryz.prog 173 = some 8 := by kernel_rfl
@[simp] theorem tzero173 : tzero Tryz.prog 173 = some (.sc (.nilFunc)) := by kernel_rfl
attribute [simp] Tryz.underlying174
@[simp] theorem tagg174 : tagg Tryz.prog 174 = some false := by kernel_rfl
@[simp] theorem tsize174 : tsize Tryz.prog 174 = some 1 := by kernel_rfl
@[simp] theorem tbytes174 : tbytes Tryz.prog 174 = some 8 := by kernel_rfl
@[simp] theorem tzero174 : tzero Tryz.prog 174 = some (.sc (.nilFunc)) := by kernel_rfl
attribute [simp] Tryz.underlying175
@[simp] theorem tagg175 : tagg Tryz.prog 175 = some false := by kernel_rfl
@[simp] theorem tsize175 : tsize Tryz.prog 175 = some 1 := by kernel_rfl
@[simp] theorem tbytes175 : tbytes Tryz.prog 175 = some 8 := by kernel_rfl
@[simp] theorem tzero175 : tzero Tryz.prog 175 = some (.sc (.nilFunc)) := by kernel_rfl
attribute [simp] Tryz.underlying176
@[simp] theorem tagg176 : tagg Tryz.prog 176 = some false := by kernel_rfl
@[simp] theorem tsize176 : tsize Tryz.prog 176 = some 1 := by kernel_rfl
@[simp] theorem tbytes176 : tbytes Tryz.prog 176 = some 8 := by kernel_rfl
@[simp] theorem tzero176 : tzero Tryz.prog 176 = some (.sc (.nilFunc)) := by kernel_rfl
attribute [simp] Tryz.underlying178
@[simp] theorem tagg178 : tagg Tryz.prog 178 = some false := by kernel_rfl
@[simp] theorem tsize178 : tsize Tryz.prog 178 = some 1 := by kernel_rfl
@[simp] theorem tbytes178 : tbytes Tryz.prog 178 = some 8 := by kernel_rfl
@[simp] theorem tzero178 : tzero Tryz.prog 178 = some (.sc (.nilFunc)) := by kernel_rfl
attribute [simp] Tryz.underlying180
@[simp] theorem tagg180 : tagg Tryz.prog 180 = some false := by kernel_rfl
@[simp] theorem tsize180 : tsize Tryz.prog 180 = some 1 := by kernel_rfl
@[simp] theorem tbytes180 : tbytes Tryz.prog 180 = some 8 := by kernel_rfl
@[simp] theorem tzero180 : tzero Tryz.prog 180 = some (.sc (.nilFunc)) := by kernel_rfl
attribute [simp] Tryz.underlying181
@[simp] theorem tagg181 : tagg Tryz.prog 181 = some false := by kernel_rfl
@[simp] theorem tsize181 : tsize Tryz.prog 181 = some 1 := by kernel_rfl
@[simp] theorem tbytes181 : tbytes Tryz.prog 181 = some 8 := by kernel_rfl
@[simp] theorem tzero181 : tzero Tryz.prog 181 = some (.sc (.nilFunc)) := by kernel_rfl
attribute [simp] Tryz.underlying182
@[simp] theorem tagg182 : tagg Tryz.prog 182 = some false := by kernel_rfl
@[simp] theorem tsize182 : tsize Tryz.prog 182 = some 1 := by kernel_rfl
@[simp] theorem tbytes182 : tbytes Tryz.prog 182 = some 8 := by kernel_rfl
@[simp] theorem tzero182 : tzero Tryz.prog 182 = some (.sc (.nilFunc)) := by kernel_rfl
attribute [simp] Tryz.underlying183
@[simp] theorem tagg183 : tagg Tryz.prog 183 = some true := by kernel_rfl
@[simp] theorem tsize183 : tsize Tryz.prog 183 = some 12 := by kernel_rfl
@[simp] theorem tbytes183 : tbytes Tryz.prog 183 = some 208 := by kernel_rfl
@[simp] theorem tzero183 : tzero Tryz.prog 183 = some (.agg [.sc (.int .i64 0), .sc (.int .i64 0), .sc (.string ⟨⟨[]⟩⟩), .emp 0, .emp 0, .emp 0, .sc (.int .i64 0), .sc (.int .i64 0), .sc (.string ⟨⟨[]⟩⟩), .emp 0, .emp 0, .emp 0]) := by kernel_rfl
@[simp] theorem fieldAddr183_0 {id off : Nat} : afieldAddr Tryz.prog 183 (.ptr id off) 0 = some (.ptr id (off + 0)) := by simp [afieldAddr, tfield]
@[simp] theorem fieldAddr183_0c {x : AV} {off : Nat} : afieldAddr Tryz.prog 183 (.cptr x off) 0 = some (.cptr x (off + 0)) := by simp [afieldAddr, tfield]
@[simp] theorem fieldAddr183_1 {id off : Nat} : afieldAddr Tryz.prog 183 (.ptr id off) 1 = some (.ptr id (off + 6)) := by simp [afieldAddr, tfield]
@[simp] theorem fieldAddr183_1c {x : AV} {off : Nat} : afieldAddr Tryz.prog 183 (.cptr x off) 1 = some (.cptr x (off + 6)) := by simp [afieldAddr, tfield]
attribute [simp] Tryz.underlying184
@[simp] theorem tagg184 : tagg Tryz.prog 184 = some true := by kernel_rfl
@[simp] theorem tsize184 : tsize Tryz.prog 184 = some 12 := by kernel_rfl
@[simp] theorem tbytes184 : tbytes Tryz.prog 184 = some 208 := by kernel_rfl
@[simp] theorem tzero184 : tzero Tryz.prog 184 = some (.agg [.sc (.int .i64 0), .sc (.int .i64 0), .sc (.string ⟨⟨[]⟩⟩), .emp 0, .emp 0, .emp 0, .sc (.int .i64 0), .sc (.int .i64 0), .sc (.string ⟨⟨[]⟩⟩), .emp 0, .emp 0, .emp 0]) := by kernel_rfl
@[simp] theorem fieldAddr184_0 {id off : Nat} : afieldAddr Tryz.prog 184 (.ptr id off) 0 = some (.ptr id (off + 0)) := by simp [afieldAddr, tfield]
@[simp] theorem fieldAddr184_0c {x : AV} {off : Nat} : afieldAddr Tryz.prog 184 (.cptr x off) 0 = some (.cptr x (off + 0)) := by simp [afieldAddr, tfield]
@[simp] theorem fieldAddr184_1 {id off : Nat} : afieldAddr Tryz.prog 184 (.ptr id off) 1 = some (.ptr id (off + 6)) := by simp [afieldAddr, tfield]
@[simp] theorem fieldAddr184_1c {x : AV} {off : Nat} : afieldAddr Tryz.prog 184 (.cptr x off) 1 = some (.cptr x (off + 6)) := by simp [afieldAddr, tfield]
attribute [simp] Tryz.underlying185
@[simp] theorem tagg185 : tagg Tryz.prog 185 = some false := by kernel_rfl
@[simp] theorem tsize185 : tsize Tryz.prog 185 = some 1 := by kernel_rfl
@[simp] theorem tbytes185 : tbytes Tryz.prog 185 = some 8 := by kernel_rfl
@[simp] theorem tzero185 : tzero Tryz.prog 185 = some (.sc (.nilFunc)) := by kernel_rfl
attribute [simp] Tryz.underlying186
@[simp] theorem tagg186 : tagg Tryz.prog 186 = some false := by kernel_rfl
@[simp] theorem tsize186 : tsize Tryz.prog 186 = some 1 := by kernel_rfl
@[simp] theorem tbytes186 : tbytes Tryz.prog 186 = some 24 := by kernel_rfl
@[simp] theorem tzero186 : tzero Tryz.prog 186 = some (.emp 0) := by kernel_rfl
@[simp] theorem telem186 : telem Tryz.prog 186 = some 235 := by kernel_rfl
@[simp] theorem nofz186 : nofz Tryz.prog 186 = false := by kernel_rfl
attribute [simp] Tryz.underlying188
@[simp] theorem tagg188 : tagg Tryz.prog 188 = some false := by kernel_rfl
@[simp] theorem tsize188 : tsize Tryz.prog 188 = some 1 := by kernel_rfl
@[simp] theorem tbytes188 : tbytes Tryz.prog 188 = some 8 := by kernel_rfl
@[simp] theorem tzero188 : tzero Tryz.prog 188 = some (.sc (.nilFunc)) := by kernel_rfl
attribute [simp] Tryz.underlying189
@[simp] theorem tagg189 : tagg Tryz.prog 189 = some false := by kernel_rfl
@[simp] theorem tsize189 : tsize Tryz.prog 189 = some 1 := by kernel_rfl
@[simp] theorem tbytes189 : tbytes Tryz.prog 189 = some 8 := by kernel_rfl
@[simp] theorem tzero189 : tzero Tryz.prog 189 = some (.sc (.nilFunc)) := by kernel_rfl
attribute [simp] Tryz.underlying190
@[simp] theorem tagg190 : tagg Tryz.prog 190 = some true := by kernel_rfl
@[simp] theorem tsize190 : tsize Tryz.prog 190 = some 4 := by kernel_rfl
@[simp] theorem tbytes190 : tbytes Tryz.prog 190 = some 40 := by kernel_rfl
@[simp] theorem tzero190 : tzero Tryz.prog 190 = some (.agg [.sc (.string ⟨⟨[]⟩⟩), .sc (.int .i64 0), .sc (.int .i64 0), .sc (.int .i64 0)]) := by kernel_rfl
@[simp] theorem fieldAddr190_0 {id off : Nat} : afieldAddr Tryz.prog 190 (.ptr id off) 0 = some (.ptr id (off + 0)) := by simp [afieldAddr, tfield]
@[simp] theorem fieldAddr190_0c {x : AV} {off : Nat} : afieldAddr Tryz.prog 190 (.cptr x off) 0 = some (.cptr x (off + 0)) := by simp [afieldAddr, tfield]
@[simp] theorem fieldAddr190_1 {id off : Nat} : afieldAddr Tryz.prog 190 (.ptr id off) 1 = some (.ptr id (off + 1)) := by simp [afieldAddr, tfield]
@[simp] theorem fieldAddr190_1c {x : AV} {off : Nat} : afieldAddr Tryz.prog 190 (.cptr x off) 1 = some (.cptr x (off + 1)) := by simp [afieldAddr, tfield]
@[simp] theorem fieldAddr190_2 {id off : Nat} : afieldAddr Tryz.prog 190 (.ptr id off) 2 = some (.ptr id (off + 2)) := by simp [afieldAddr, tfield]
@[simp] theorem fieldAddr190_2c {x : AV} {off : Nat} : afieldAddr Tryz.prog 190 (.cptr x off) 2 = some (.cptr x (off + 2)) := by simp [afieldAddr, tfield]
@[simp] theorem fieldAddr190_3 {id off : Nat} : afieldAddr Tryz.prog 190 (.ptr id off) 3 = some (.ptr id (off + 3)) := by simp [afieldAddr, tfield]
@[simp] theorem fieldAddr190_3c {x : AV} {off : Nat} : afieldAddr Tryz.prog 190 (.cptr x off) 3 = some (.cptr x (off + 3)) := by simp [afieldAddr, tfield]
attribute [simp] Tryz.underlying191
@[simp] theorem tagg191 : tagg Tryz.prog 191 = some true := by kernel_rfl
@[simp] theorem tsize191 : tsize Tryz.prog 191 = some 4 := by kernel_rfl
@[simp] theorem tbytes191 : tbytes Tryz.prog 191 = some 40 := by kernel_rfl
@[simp] theorem tzero191 : tzero Tryz.prog 191 = some (.agg [.sc (.string ⟨⟨[]⟩⟩), .sc (.int .i64 0), .sc (.int .i64 0), .sc (.int .i64 0)]) := by kernel_rfl
@[simp] theorem fieldAddr191_0 {id off : Nat} : afieldAddr Tryz.prog 191 (.ptr id off) 0 = some (.ptr id (off + 0)) := by simp [afieldAddr, tfield]
@[simp] theorem fieldAddr191_0c {x : AV} {off : Nat} : afieldAddr Tryz.prog 191 (.cptr x off) 0 = some (.cptr x (off + 0)) := by simp [afieldAddr, tfield]
@[simp] theorem fieldAddr191_1 {id off : Nat} : afieldAddr Tryz.prog 191 (.ptr id off) 1 = some (.ptr id (off + 1)) := by simp [afieldAddr, tfield]
@[simp] theorem fieldAddr191_1c {x : AV} {off : Nat} : afieldAddr Tryz.prog 191 (.cptr x off) 1 = some (.cptr x (off + 1)) := by simp [afieldAddr, tfield]
@[simp] theorem fieldAddr191_2 {id off : Nat} : afieldAddr Tryz.prog 191 (.ptr id off) 2 = some (.ptr id (off + 2)) := by simp [afieldAddr, tfield]
@[simp] theorem fieldAddr191_2c {x : AV} {off : Nat} : afieldAddr Tryz.prog 191 (.cptr x off) 2 = some (.cptr x (off + 2)) := by simp [afieldAddr, tfield]
@[simp] theorem fieldAddr191_3 {id off : Nat} : afieldAddr Tryz.prog 191 (.ptr id off) 3 = some (.ptr id (off + 3)) := by simp [afieldAddr, tfield]
@[simp] theorem fieldAddr191_3c {x : AV} {off : Nat} : afieldAddr Tryz.prog 191 (.cptr x off) 3 = some (.cptr x (off + 3)) := by simp [afieldAddr, tfield]
attribute [simp] Tryz.underlying193
@[simp] theorem tagg193 : tagg Tryz.prog 193 = some false := by kernel_rfl
@[simp] theorem tsize193 : tsize Tryz.prog 193 = some 1 := by kernel_rfl
@[simp] theorem tbytes193 : tbytes Tryz.prog 193 = some 8 := by kernel_rfl
@[simp] theorem tzero193 : tzero Tryz.prog 193 = some (.sc (.nilFunc)) := by kernel_rfl
attribute [simp] Tryz.underlying194
@[simp] theorem tagg194 : tagg Tryz.prog 194 = some false := by kernel_rfl
@[simp] theorem tsize194 : tsize Tryz.prog 194 = some 1 := by kernel_rfl
@[simp] theorem tbytes194 : tbytes Tryz.prog 194 = some 8 := by kernel_rfl
@[simp] theorem tzero194 : tzero Tryz.prog 194 = some (.sc (.nilFunc)) := by kernel_rfl
attribute [simp] Tryz.underlying195
@[simp] theorem tagg195 : tagg Tryz.prog 195 = some false := by kernel_rfl
@[simp] theorem tsize195 : tsize Tryz.prog 195 = some 1 := by kernel_rfl
@[simp] theorem tbytes195 : tbytes Tryz.prog 195 = some 8 := by kernel_rfl
@[simp] theorem tzero195 : tzero Tryz.prog 195 = some (.sc (.nilFunc)) := by kernel_rfl
attribute [simp] Tryz.underlying196
@[simp] theorem tagg196 : tagg Tryz.prog 196 = some false := by kernel_rfl
@[simp] theorem tsize196 : tsize Tryz.prog 196 = some 1 := by kernel_rfl
@[simp] theorem tbytes196 : tbytes Tryz.prog 196 = some 8 := by kernel_rfl
@[simp] theorem tzero196 : tzero Tryz.prog 196 = some (.sc (.int .i64 0)) := by kernel_rfl
attribute [simp] Tryz.underlying198
@[simp] theorem tagg198 : tagg Tryz.prog 198 = some false := by kernel_rfl
@[simp] theorem tsize198 : tsize Tryz.prog 198 = some 1 := by kernel_rfl
@[simp] theorem tbytes198 : tbytes Tryz.prog 198 = some 8 := by kernel_rfl
@[simp] theorem tzero198 : tzero Tryz.prog 198 = some (.sc (.nilFunc)) := by kernel_rfl
attribute [simp] Tryz.underlying199
@[simp] theorem tagg199 : tagg Tryz.prog 199 = some false := by kernel_rfl
@[simp] theorem tsize199 : tsize Tryz.prog 199 = some 1 := by kernel_rfl
@[simp] theorem tbytes199 : tbytes Tryz.prog 199 = some 8 := by kernel_rfl
@[simp] theorem tzero199 : tzero Tryz.prog 199 = some (.sc (.nilFunc)) := by kernel_rfl
attribute [simp] Tryz.underlying200
@[simp] theorem tagg200 : tagg Tryz.prog 200 = some false := by kernel_rfl
@[simp] theorem tsize200 : tsize Tryz.prog 200 = some 1 := by kernel_rfl
@[simp] theorem tbytes200 : tbytes Tryz.prog 200 = some 8 := by kernel_rfl
@[simp] theorem tzero200 : tzero Tryz.prog 200 = some (.sc (.nilFunc)) := by kernel_rfl
attribute [simp] Tryz.underlying201
@[simp] theorem tagg201 : tagg Tryz.prog 201 = some false := by kernel_rfl
@[simp] theorem tsize201 : tsize Tryz.prog 201 = some 1 := by kernel_rfl
@[simp] theorem tbytes201 : tbytes Tryz.prog 201 = some 8 := by kernel_rfl
@[simp] theorem tzero201 : tzero Tryz.prog 201 = some (.sc (.nilFunc)) := by kernel_rfl
attribute [simp] Tryz.underlying202
@[simp] theorem tagg202 : tagg Tryz.prog 202 = some false := by kernel_rfl
@[simp] theorem tsize202 : tsize Tryz.prog 202 = some 1 := by kernel_rfl
@[simp] theorem tbytes202 : tbytes Tryz.prog 202 = some 8 := by kernel_rfl
@[simp] theorem tzero202 : tzero Tryz.prog 202 = some (.sc (.nilFunc)) := by kernel_rfl
attribute [simp] Tryz.underlying203
@[simp] theorem tagg203 : tagg Tryz.prog 203 = some false := by kernel_rfl
@[simp] theorem tsize203 : tsize Tryz.prog 203 = some 1 := by kernel_rfl
@[simp] theorem tbytes203 : tbytes Tryz.prog 203 = some 8 := by kernel_rfl
@[simp] theorem tzero203 : tzero Tryz.prog 203 = some (.sc (.nilFunc)) := by kernel_rfl
attribute [simp] Tryz.underlying204
@[simp] theorem tagg204 : tagg Tryz.prog 204 = some false := by kernel_rfl
@[simp] theorem tsize204 : tsize Tryz.prog 204 = some 1 := by kernel_rfl
@[simp] theorem tbytes204 : tbytes Tryz.prog 204 = some 4 := by kernel_rfl
@[simp] theorem tzero204 : tzero Tryz.prog 204 = some (.sc (.int .u32 0)) := by kernel_rfl
attribute [simp] Tryz.underlying205
@[simp] theorem tagg205 : tagg Tryz.prog 205 = some false := by kernel_rfl
@[simp] theorem tsize205 : tsize Tryz.prog 205 = some 1 := by kernel_rfl
@[simp] theorem tbytes205 : tbytes Tryz.prog 205 = some 8 := by kernel_rfl
@[simp] theorem tzero205 : tzero Tryz.prog 205 = some (.sc (.nilFunc)) := by kernel_rfl
attribute [simp] Tryz.underlying206
@[simp] theorem tagg206 : tagg Tryz.prog 206 = some false := by kernel_rfl
@[simp] theorem tsize206 : tsize Tryz.prog 206 = some 1 := by kernel_rfl
@[simp] theorem tbytes206 : tbytes Tryz.prog 206 = some 8 := by kernel_rfl
@[simp] theorem tzero206 : tzero Tryz.prog 206 = some (.sc (.int .u64 0)) := by kernel_rfl
attribute [simp] Tryz.underlying207
@[simp] theorem tagg207 : tagg Tryz.prog 207 = some false := by kernel_rfl
@[simp] theorem tsize207 : tsize Tryz.prog 207 = some 1 := by kernel_rfl
@[simp] theorem tbytes207 : tbytes Tryz.prog 207 = some 8 := by kernel_rfl
@[simp] theorem tzero207 : tzero Tryz.prog 207 = some (.sc (.nilFunc)) := by kernel_rfl
attribute [simp] Tryz.underlying208
@[simp] theorem tagg208 : tagg Tryz.prog 208 = some false := by kernel_rfl
@[simp] theorem tsize208 : tsize Tryz.prog 208 = some 1 := by kernel_rfl
@[simp] theorem tbytes208 : tbytes Tryz.prog 208 = some 8 := by kernel_rfl
@[simp] theorem tzero208 : tzero Tryz.prog 208 = some (.sc (.nilFunc)) := by kernel_rfl
attribute [simp] Tryz.underlying210
@[simp] theorem tagg210 : tagg Tryz.prog 210 = some false := by kernel_rfl
@[simp] theorem tsize210 : tsize Tryz.prog 210 = some 1 := by kernel_rfl
@[simp] theorem tbytes210 : tbytes Tryz.prog 210 = some 8 := by kernel_rfl
@[simp] theorem tzero210 : tzero Tryz.prog 210 = some (.sc (.nilFunc)) := by kernel_rfl
attribute [simp] Tryz.underlying211
@[simp] theorem tagg211 : tagg Tryz.prog 211 = some false := by kernel_rfl
@[simp] theorem tsize211 : tsize Tryz.prog 211 = some 1 := by kernel_rfl
@[simp] theorem tbytes211 : tbytes Tryz.prog 211 = some 8 := by kernel_rfl
@[simp] theorem tzero211 : tzero Tryz.prog 211 = some (.sc (.nilFunc)) := by kernel_rfl
attribute [simp] Tryz.underlying212
@[simp] theorem tagg212 : tagg Tryz.prog 212 = some false := by kernel_rfl
@[simp] theorem tsize212 : tsize Tryz.prog 212 = some 1 := by kernel_rfl
@[simp] theorem tbytes212 : tbytes Tryz.prog 212 = some 8 := by kernel_rfl
@[simp] theorem tzero212 : tzero Tryz.prog 212 = some (.sc (.nilFunc)) := by kernel_rfl
attribute [simp] Tryz.underlying213
@[simp] theorem tagg213 : tagg Tryz.prog 213 = some false := by kernel_rfl
@[simp] theorem tsize213 : tsize Tryz.prog 213 = some 1 := by kernel_rfl
@[simp] theorem tbytes213 : tbytes Tryz.prog 213 = some 8 := by kernel_rfl
@[simp] theorem tzero213 : tzero Tryz.prog 213 = some (.sc (.nilFunc)) := by kernel_rfl
attribute [simp] Tryz.underlying214
@[simp] theorem tagg214 : tagg Tryz.prog 214 = some false := by kernel_rfl
@[simp] theorem tsize214 : tsize Tryz.prog 214 = some 1 := by kernel_rfl
@[simp] theorem tbytes214 : tbytes Tryz.prog 214 = some 8 := by kernel_rfl
@[simp] theorem tzero214 : tzero Tryz.prog 214 = some (.sc (.nilFunc)) := by kernel_rfl
attribute [simp] Tryz.underlying215
@[simp] theorem tagg215 : tagg Tryz.prog 215 = some false := by kernel_rfl
@[simp] theorem tsize215 : tsize Tryz.prog 215 = some 1 := by kernel_rfl
@[simp] theorem tbytes215 : tbytes Tryz.prog 215 = some 24 := by kernel_rfl
@[simp] theorem tzero215 : tzero Tryz.prog 215 = some (.emp 0) := by kernel_rfl
@[simp] theorem telem215 : telem Tryz.prog 215 = some 5 := by kernel_rfl
@[simp] theorem nofz215 : nofz Tryz.prog 215 = false := by kernel_rfl
attribute [simp] Tryz.underlying216
@[simp] theorem tagg216 : tagg Tryz.prog 216 = some false := by kernel_rfl
@[simp] theorem tsize216 : tsize Tryz.prog 216 = some 1 := by kernel_rfl
@[simp] theorem tbytes216 : tbytes Tryz.prog 216 = some 8 := by kernel_rfl
@[simp] theorem tzero216 : tzero Tryz.prog 216 = some (.sc (.nilFunc)) := by kernel_rfl
attribute [simp] Tryz.underlying217
@[simp] theorem tagg217 : tagg Tryz.prog 217 = some false := by kernel_rfl
@[simp] theorem tsize217 : tsize Tryz.prog 217 = some 1 := by kernel_rfl
@[simp] theorem tbytes217 : tbytes Tryz.prog 217 = some 8 := by kernel_rfl
@[simp] theorem tzero217 : tzero Tryz.prog 217 = some (.sc (.nilFunc)) := by kernel_rfl
attribute [simp] Tryz.underlying218
@[simp] theorem tagg218 : tagg Tryz.prog 218 = some false := by kernel_rfl
@[simp] theorem tsize218 : tsize Tryz.prog 218 = some 1 := by kernel_rfl
@[simp] theorem tbytes218 : tbytes Tryz.prog 218 = some 8 := by kernel_rfl
@[simp] theorem tzero218 : tzero Tryz.prog 218 = some (.sc (.nilFunc)) := by kernel_rfl
attribute [simp] Tryz.underlying220
@[simp] theorem tagg220 : tagg Tryz.prog 220 = some false := by kernel_rfl
@[simp] theorem tsize220 : tsize Tryz.prog 220 = some 1 := by kernel_rfl
@[simp] theorem tbytes220 : tbytes Tryz.prog 220 = some 8 := by kernel_rfl
@[simp] theorem tzero220 : tzero Tryz.prog 220 = some (.sc (.nilFunc)) := by kernel_rfl
attribute [simp] Tryz.underlying221
@[simp] theorem tagg221 : tagg Tryz.prog 221 = some false := by kernel_rfl
@[simp] theorem tsize221 : tsize Tryz.prog 221 = some 1 := by kernel_rfl
@[simp] theorem tbytes221 : tbytes Tryz.prog 221 = some 8 := by kernel_rfl
@[simp] theorem tzero221 : tzero Tryz.prog 221 = some (.sc (.nilFunc)) := by kernel_rfl
attribute [simp] Tryz.underlying223
@[simp] theorem tagg223 : tagg Tryz.prog 223 = some false := by kernel_rfl
@[simp] theorem tsize223 : tsize Tryz.prog 223 = some 1 := by kernel_rfl
@[simp] theorem tbytes223 : tbytes Tryz.prog 223 = some 8 := by kernel_rfl
@[simp] theorem tzero223 : tzero Tryz.prog 223 = some (.sc (.nilFunc)) := by kernel_rfl
attribute [simp] Tryz.underlying224
@[simp] theorem tagg224 : tagg Tryz.prog 224 = some false := by kernel_rfl
@[simp] theorem tsize224 : tsize Tryz.prog 224 = some 1 := by kernel_rfl
@[simp] theorem tbytes224 : tbytes Tryz.prog 224 = some 8 := by kernel_rfl
@[simp] theorem tzero224 : tzero Tryz.prog 224 = some (.sc (.nilFunc)) := by kernel_rfl
attribute [simp] Tryz.underlying225
@[simp] theorem tagg225 : tagg Tryz.prog 225 = some false := by kernel_rfl
@[simp] theorem tsize225 : tsize Tryz.prog 225 = some 1 := by kernel_rfl
@[simp] theorem tbytes225 : tbytes Tryz.prog 225 = some 8 := by kernel_rfl
@[simp] theorem tzero225 : tzero Tryz.prog 225 = some (.sc (.nilFunc)) := by kernel_rfl
attribute [simp] Tryz.underlying226
@[simp] theorem tagg226 : tagg Tryz.prog 226 = some false := by kernel_rfl
@[simp] theorem tsize226 : tsize Tryz.prog 226 = some 1 := by kernel_rfl
@[simp] theorem tbytes226 : tbytes Tryz.prog 226 = some 8 := by kernel_rfl
@[simp] theorem tzero226 : tzero Tryz.prog 226 = some (.sc (.nilFunc)) := by kernel_rfl
attribute [simp] Tryz.underlying227
@[simp] theorem tagg227 : tagg Tryz.prog 227 = some false := by kernel_rfl
@[simp] theorem tsize227 : tsize Tryz.prog 227 = some 1 := by kernel_rfl
@[simp] theorem tbytes227 : tbytes Tryz.prog 227 = some 8 := by kernel_rfl
@[simp] theorem tzero227 : tzero Tryz.prog 227 = some (.sc (.nilFunc)) := by kernel_rfl
attribute [simp] Tryz.underlying228
@[simp] theorem tagg228 : tagg Tryz.prog 228 = some false := by kernel_rfl
@[simp] theorem tsize228 : tsize Tryz.prog 228 = some 1 := by kernel_rfl
@[simp] theorem tbytes228 : tbytes Tryz.prog 228 = some 8 := by kernel_rfl
@[simp] theorem tzero228 : tzero Tryz.prog 228 = some (.sc (.nilFunc)) := by kernel_rfl
attribute [simp] Tryz.underlying229
@[simp] theorem tagg229 : tagg Tryz.prog 229 = some false := by kernel_rfl
@[simp] theorem tsize229 : tsize Tryz.prog 229 = some 1 := by kernel_rfl
@[simp] theorem tbytes229 : tbytes Tryz.prog 229 = some 8 := by kernel_rfl
@[simp] theorem tzero229 : tzero Tryz.prog 229 = some (.sc (.pointer Option.none)) := by kernel_rfl
attribute [simp] Tryz.underlying230
@[simp] theorem tagg230 : tagg Tryz.prog 230 = some true := by kernel_rfl
@[simp] theorem tsize230 : tsize Tryz.prog 230 = some 2 := by kernel_rfl
@[simp] theorem tbytes230 : tbytes Tryz.prog 230 = some 32 := by kernel_rfl
@[simp] theorem tzero230 : tzero Tryz.prog 230 = some (.agg [.emp 0, .sc (.nilFunc)]) := by kernel_rfl
@[simp] theorem fieldAddr230_0 {id off : Nat} : afieldAddr Tryz.prog 230 (.ptr id off) 0 = some (.ptr id (off + 0)) := by simp [afieldAddr, tfield]
@[simp] theorem fieldAddr230_0c {x : AV} {off : Nat} : afieldAddr Tryz.prog 230 (.cptr x off) 0 = some (.cptr x (off + 0)) := by simp [afieldAddr, tfield]
@[simp] theorem fieldAddr230_1 {id off : Nat} : afieldAddr Tryz.prog 230 (.ptr id off) 1 = some (.ptr id (off + 1)) := by simp [afieldAddr, tfield]
@[simp] theorem fieldAddr230_1c {x : AV} {off : Nat} : afieldAddr Tryz.prog 230 (.cptr x off) 1 = some (.cptr x (off + 1)) := by simp [afieldAddr, tfield]
attribute [simp] Tryz.underlying231
@[simp] theorem tagg231 : tagg Tryz.prog 231 = some true := by kernel_rfl
@[simp] theorem tsize231 : tsize Tryz.prog 231 = some 2 := by kernel_rfl
@[simp] theorem tbytes231 : tbytes Tryz.prog 231 = some 32 := by kernel_rfl
@[simp] theorem tzero231 : tzero Tryz.prog 231 = some (.agg [.emp 0, .sc (.nilFunc)]) := by kernel_rfl
@[simp] theorem fieldAddr231_0 {id off : Nat} : afieldAddr Tryz.prog 231 (.ptr id off) 0 = some (.ptr id (off + 0)) := by simp [afieldAddr, tfield]
@[simp] theorem fieldAddr231_0c {x : AV} {off : Nat} : afieldAddr Tryz.prog 231 (.cptr x off) 0 = some (.cptr x (off + 0)) := by simp [afieldAddr, tfield]
@[simp] theorem fieldAddr231_1 {id off : Nat} : afieldAddr Tryz.prog 231 (.ptr id off) 1 = some (.ptr id (off + 1)) := by simp [afieldAddr, tfield]
@[simp] theorem fieldAddr231_1c {x : AV} {off : Nat} : afieldAddr Tryz.prog 231 (.cptr x off) 1 = some (.cptr x (off + 1)) := by simp [afieldAddr, tfield]
attribute [simp] Tryz.underlying232
@[simp] theorem tagg232 : tagg Tryz.prog 232 = some false := by kernel_rfl
@[simp] theorem tsize232 : tsize Tryz.prog 232 = some 1 := by kernel_rfl
@[simp] theorem tbytes232 : tbytes Tryz.prog 232 = some 8 := by kernel_rfl
@[simp] theorem tzero232 : tzero Tryz.prog 232 = some (.sc (.nilFunc)) := by kernel_rfl
attribute [simp] Tryz.underlying233
@[simp] theorem tagg233 : tagg Tryz.prog 233 = some false := by kernel_rfl
@[simp] theorem tsize233 : tsize Tryz.prog 233 = some 1 := by kernel_rfl
@[simp] theorem tbytes233 : tbytes Tryz.prog 233 = some 8 := by kernel_rfl
@[simp] theorem tzero233 : tzero Tryz.prog 233 = some (.sc (.nilFunc)) := by kernel_rfl
attribute [simp] Tryz.underlying234
@[simp] theorem tagg234 : tagg Tryz.prog 234 = some true := by kernel_rfl
@[simp] theorem tsize234 : tsize Tryz.prog 234 = some 14 := by kernel_rfl
@[simp] theorem tbytes234 : tbytes Tryz.prog 234 = some 240 := by kernel_rfl
@[simp] theorem tzero234 : tzero Tryz.prog 234 = some (.agg [.sc (.int .i64 0), .sc (.int .i64 0), .sc (.string ⟨⟨[]⟩⟩), .emp 0, .emp 0, .emp 0, .sc (.int .i64 0), .sc (.int .i64 0), .sc (.int .i64 0), .sc (.string ⟨⟨[]⟩⟩), .emp 0, .emp 0, .emp 0, .emp 0]) := by kernel_rfl
@[simp] theorem fieldAddr234_0 {id off : Nat} : afieldAddr Tryz.prog 234 (.ptr id off) 0 = some (.ptr id (off + 0)) := by simp [afieldAddr, tfield]
@[simp] theorem fieldAddr234_0c {x : AV} {off : Nat} : afieldAddr Tryz.prog 234 (.cptr x off) 0 = some (.cptr x (off + 0)) := by simp [afieldAddr, tfield]
@[simp] theorem fieldAddr234_1 {id off : Nat} : afieldAddr Tryz.prog 234 (.ptr id off) 1 = some (.ptr id (off + 6)) := by simp [afieldAddr, tfield]
@[simp] theorem fieldAddr234_1c {x : AV} {off : Nat} : afieldAddr Tryz.prog 234 (.cptr x off) 1 = some (.cptr x (off + 6)) := by simp [afieldAddr, tfield]
@[simp] theorem fieldAddr234_2 {id off : Nat} : afieldAddr Tryz.prog 234 (.ptr id off) 2 = some (.ptr id (off + 7)) := by simp [afieldAddr, tfield]
@[simp] theorem fieldAddr234_2c {x : AV} {off : Nat} : afieldAddr Tryz.prog 234 (.cptr x off) 2 = some (.cptr x (off + 7)) := by simp [afieldAddr, tfield]
@[simp] theorem fieldAddr234_3 {id off : Nat} : afieldAddr Tryz.prog 234 (.ptr id off) 3 = some (.ptr id (off + 13)) := by simp [afieldAddr, tfield]
@[simp] theorem fieldAddr234_3c {x : AV} {off : Nat} : afieldAddr Tryz.prog 234 (.cptr x off) 3 = some (.cptr x (off + 13)) := by simp [afieldAddr, tfield]
attribute [simp] Tryz.underlying235
@[simp] theorem tagg235 : tagg Tryz.prog 235 = some true := by kernel_rfl
@[simp] theorem tsize235 : tsize Tryz.prog 235 = some 14 := by kernel_rfl
@[simp] theorem tbytes235 : tbytes Tryz.prog 235 = some 240 := by kernel_rfl
@[simp] theorem tzero235 : tzero Tryz.prog 235 = some (.agg [.sc (.int .i64 0), .sc (.int .i64 0), .sc (.string ⟨⟨[]⟩⟩), .emp 0, .emp 0, .emp 0, .sc (.int .i64 0), .sc (.int .i64 0), .sc (.int .i64 0), .sc (.string ⟨⟨[]⟩⟩), .emp 0, .emp 0, .emp 0, .emp 0]) := by kernel_rfl
@[simp] theorem fieldAddr235_0 {id off : Nat} : afieldAddr Tryz.prog 235 (.ptr id off) 0 = some (.ptr id (off + 0)) := by simp [afieldAddr, tfield]
@[simp] theorem fieldAddr235_0c {x : AV} {off : Nat} : afieldAddr Tryz.prog 235 (.cptr x off) 0 = some (.cptr x (off + 0)) := by simp [afieldAddr, tfield]
@[simp] theorem fieldAddr235_1 {id off : Nat} : afieldAddr Tryz.prog 235 (.ptr id off) 1 = some (.ptr id (off + 6)) := by simp [afieldAddr, tfield]
@[simp] theorem fieldAddr235_1c {x : AV} {off : Nat} : afieldAddr Tryz.prog 235 (.cptr x off) 1 = some (.cptr x (off + 6)) := by simp [afieldAddr, tfield]
@[simp] theorem fieldAddr235_2 {id off : Nat} : afieldAddr Tryz.prog 235 (.ptr id off) 2 = some (.ptr id (off + 7)) := by simp [afieldAddr, tfield]
@[simp] theorem fieldAddr235_2c {x : AV} {off : Nat} : afieldAddr Tryz.prog 235 (.cptr x off) 2 = some (.cptr x (off + 7)) := by simp [afieldAddr, tfield]
@[simp] theorem fieldAddr235_3 {id off : Nat} : afieldAddr Tryz.prog 235 (.ptr id off) 3 = some (.ptr id (off + 13)) := by simp [afieldAddr, tfield]
@[simp] theorem fieldAddr235_3c {x : AV} {off : Nat} : afieldAddr Tryz.prog 235 (.cptr x off) 3 = some (.cptr x (off + 13)) := by simp [afieldAddr, tfield]
attribute [simp] Tryz.underlying236
@[simp] theorem tagg236 : tagg Tryz.prog 236 = some false := by kernel_rfl
@[simp] theorem tsize236 : tsize Tryz.prog 236 = some 1 := by kernel_rfl
@[simp] theorem tbytes236 : tbytes Tryz.prog 236 = some 8 := by kernel_rfl
@[simp] theorem tzero236 : tzero Tryz.prog 236 = some (.sc (.nilFunc)) := by kernel_rfl
attribute [simp] Tryz.underlying237
@[simp] theorem tagg237 : tagg Tryz.prog 237 = some false := by kernel_rfl
@[simp] theorem tsize237 : tsize Tryz.prog 237 = some 1 := by kernel_rfl
@[simp] theorem tbytes237 : tbytes Tryz.prog 237 = some 8 := by kernel_rfl
@[simp] theorem tzero237 : tzero Tryz.prog 237 = some (.sc (.nilFunc)) := by kernel_rfl
attribute [simp] Tryz.underlying238
@[simp] theorem tagg238 : tagg Tryz.prog 238 = some false := by kernel_rfl
@[simp] theorem tsize238 : tsize Tryz.prog 238 = some 1 := by kernel_rfl
@[simp] theorem tbytes238 : tbytes Tryz.prog 238 = some 8 := by kernel_rfl
@[simp] theorem tzero238 : tzero Tryz.prog 238 = some (.sc (.nilFunc)) := by kernel_rfl
attribute [simp] Tryz.underlying239
@[simp] theorem tagg239 : tagg Tryz.prog 239 = some false := by kernel_rfl
@[simp] theorem tsize239 : tsize Tryz.prog 239 = some 1 := by kernel_rfl
@[simp] theorem tbytes239 : tbytes Tryz.prog 239 = some 8 := by kernel_rfl
@[simp] theorem tzero239 : tzero Tryz.prog 239 = some (.sc (.pointer Option.none)) := by kernel_rfl
attribute [simp] Tryz.underlying240
@[simp] theorem tagg240 : tagg Tryz.prog 240 = some true := by kernel_rfl
@[simp] theorem tsize240 : tsize Tryz.prog 240 = some 3 := by kernel_rfl
@[simp] theorem tbytes240 : tbytes Tryz.prog 240 = some 24 := by kernel_rfl
@[simp] theorem tzero240 : tzero Tryz.prog 240 = some (.agg [.sc (.int .i64 0), .sc (.int .i64 0), .sc (.int .i64 0)]) := by kernel_rfl
@[simp] theorem fieldAddr240_0 {id off : Nat} : afieldAddr Tryz.prog 240 (.ptr id off) 0 = some (.ptr id (off + 0)) := by simp [afieldAddr, tfield]
@[simp] theorem fieldAddr240_0c {x : AV} {off : Nat} : afieldAddr Tryz.prog 240 (.cptr x off) 0 = some (.cptr x (off + 0)) := by simp [afieldAddr, tfield]
@[simp] theorem fieldAddr240_1 {id off : Nat} : afieldAddr Tryz.prog 240 (.ptr id off) 1 = some (.ptr id (off + 1)) := by simp [afieldAddr, tfield]
@[simp] theorem fieldAddr240_1c {x : AV} {off : Nat} : afieldAddr Tryz.prog 240 (.cptr x off) 1 = some (.cptr x (off + 1)) := by simp [afieldAddr, tfield]
@[simp] theorem fieldAddr240_2 {id off : Nat} : afieldAddr Tryz.prog 240 (.ptr id off) 2 = some (.ptr id (off + 2)) := by simp [afieldAddr, tfield]
@[simp] theorem fieldAddr240_2c {x : AV} {off : Nat} : afieldAddr Tryz.prog 240 (.cptr x off) 2 = some (.cptr x (off + 2)) := by simp [afieldAddr, tfield]
attribute [simp] Tryz.underlying241
@[simp] theorem tagg241 : tagg Tryz.prog 241 = some true := by kernel_rfl
@[simp] theorem tsize241 : tsize Tryz.prog 241 = some 3 := by kernel_rfl
@[simp] theorem tbytes241 : tbytes Tryz.prog 241 = some 24 := by kernel_rfl
@[simp] theorem tzero241 : tzero Tryz.prog 241 = some (.agg [.sc (.int .i64 0), .sc (.int .i64 0), .sc (.int .i64 0)]) := by kernel_rfl
@[simp] theorem fieldAddr241_0 {id off : Nat} : afieldAddr Tryz.prog 241 (.ptr id off) 0 = some (.ptr id (off + 0)) := by simp [afieldAddr, tfield]
@[simp] theorem fieldAddr241_0c {x : AV} {off : Nat} : afieldAddr Tryz.prog 241 (.cptr x off) 0 = some (.cptr x (off + 0)) := by simp [afieldAddr, tfield]
@[simp] theorem fieldAddr241_1 {id off : Nat} : afieldAddr Tryz.prog 241 (.ptr id off) 1 = some (.ptr id (off + 1)) := by simp [afieldAddr, tfield]
@[simp] theorem fieldAddr241_1c {x : AV} {off : Nat} : afieldAddr Tryz.prog 241 (.cptr x off) 1 = some (.cptr x (off + 1)) := by simp [afieldAddr, tfield]
@[simp] theorem fieldAddr241_2 {id off : Nat} : afieldAddr Tryz.prog 241 (.ptr id off) 2 = some (.ptr id (off + 2)) := by simp [afieldAddr, tfield]
@[simp] theorem fieldAddr241_2c {x : AV} {off : Nat} : afieldAddr Tryz.prog 241 (.cptr x off) 2 = some (.cptr x (off + 2)) := by simp [afieldAddr, tfield]
attribute [simp] Tryz.underlying242
@[simp] theorem tagg242 : tagg Tryz.prog 242 = some false := by kernel_rfl
@[simp] theorem tsize242 : tsize Tryz.prog 242 = some 1 := by kernel_rfl
@[simp] theorem tbytes242 : tbytes Tryz.prog 242 = some 8 := by kernel_rfl
@[simp] theorem tzero242 : tzero Tryz.prog 242 = some (.sc (.nilFunc)) := by kernel_rfl
attribute [simp] Tryz.underlying243
@[simp] theorem tagg243 : tagg Tryz.prog 243 = some true := by kernel_rfl
@[simp] theorem tsize243 : tsize Tryz.prog 243 = some 44 := by kernel_rfl
@[simp] theorem tbytes243 : tbytes Tryz.prog 243 = some 440 := by kernel_rfl
@[simp] theorem tzero243 : tzero Tryz.prog 243 = some (.agg [.sc (.string ⟨⟨[]⟩⟩), .sc (.int .i64 0), .sc (.int .i64 0), .sc (.int .i64 0), .sc (.string ⟨⟨[]⟩⟩), .sc (.int .i64 0), .sc (.int .i64 0), .sc (.int .i64 0), .sc (.string ⟨⟨[]⟩⟩), .sc (.int .i64 0), .sc (.int .i64 0), .sc (.int .i64 0), .sc (.string ⟨⟨[]⟩⟩), .sc (.int .i64 0), .sc (.int .i64 0), .sc (.int .i64 0), .sc (.string ⟨⟨[]⟩⟩), .sc (.int .i64 0), .sc (.int .i64 0), .sc (.int .i64 0), .sc (.string ⟨⟨[]⟩⟩), .sc (.int .i64 0), .sc (.int .i64 0), .sc (.int .i64 0), .sc (.string ⟨⟨[]⟩⟩), .sc (.int .i64 0), .sc (.int .i64 0), .sc (.int .i64 0), .sc (.string ⟨⟨[]⟩⟩), .sc (.int .i64 0), .sc (.int .i64 0), .sc (.int .i64 0), .sc (.string ⟨⟨[]⟩⟩), .sc (.int .i64 0), .sc (.int .i64 0), .sc (.int .i64 0), .sc (.string ⟨⟨[]⟩⟩), .sc (.int .i64 0), .sc (.int .i64 0), .sc (.int .i64 0), .sc (.string ⟨⟨[]⟩⟩), .sc (.int .i64 0), .sc (.int .i64 0), .sc (.int .i64 0)]) := by kernel_rfl
@[simp] theorem tarr243 : tarr Tryz.prog 243 = some (11, 191) := by kernel_rfl
attribute [simp] Tryz.underlying244
@[simp] theorem tagg244 : tagg Tryz.prog 244 = some false := by kernel_rfl
@[simp] theorem tsize244 : tsize Tryz.prog 244 = some 1 := by kernel_rfl
@[simp] theorem tbytes244 : tbytes Tryz.prog 244 = some 8 := by kernel_rfl
@[simp] theorem tzero244 : tzero Tryz.prog 244 = some (.sc (.nilFunc)) := by kernel_rfl
attribute [simp] Tryz.underlying245
@[simp] theorem tagg245 : tagg Tryz.prog 245 = some false := by kernel_rfl
@[simp] theorem tsize245 : tsize Tryz.prog 245 = some 1 := by kernel_rfl
@[simp] theorem tbytes245 : tbytes Tryz.prog 245 = some 8 := by kernel_rfl
@[simp] theorem tzero245 : tzero Tryz.prog 245 = some (.sc (.nilFunc)) := by kernel_rfl
attribute [simp] Tryz.underlying246
@[simp] theorem tagg246 : tagg Tryz.prog 246 = some false := by kernel_rfl
@[simp] theorem tsize246 : tsize Tryz.prog 246 = some 1 := by kernel_rfl
@[simp] theorem tbytes246 : tbytes Tryz.prog 246 = some 8 := by kernel_rfl
@[simp] theorem tzero246 : tzero Tryz.prog 246 = some (.sc (.nilFunc)) := by kernel_rfl
attribute [simp] Tryz.underlying247
@[simp] theorem tagg247 : tagg Tryz.prog 247 = some false := by kernel_rfl
@[simp] theorem tsize247 : tsize Tryz.prog 247 = some 1 := by kernel_rfl
@[simp] theorem tbytes247 : tbytes Tryz.prog 247 = some 8 := by kernel_rfl
@[simp] theorem tzero247 : tzero Tryz.prog 247 = some (.sc (.nilFunc)) := by kernel_rfl
attribute [simp] Tryz.underlying248
@[simp] theorem tagg248 : tagg Tryz.prog 248 = some false := by kernel_rfl
@[simp] theorem tsize248 : tsize Tryz.prog 248 = some 1 := by kernel_rfl
@[simp] theorem tbytes248 : tbytes Tryz.prog 248 = some 8 := by kernel_rfl
@[simp] theorem tzero248 : tzero Tryz.prog 248 = some (.sc (.int .u64 0)) := by kernel_rfl
attribute [simp] Tryz.underlying249
@[simp] theorem tagg249 : tagg Tryz.prog 249 = some false := by kernel_rfl
@[simp] theorem tsize249 : tsize Tryz.prog 249 = some 1 := by kernel_rfl
@[simp] theorem tbytes249 : tbytes Tryz.prog 249 = some 8 := by kernel_rfl
@[simp] theorem tzero249 : tzero Tryz.prog 249 = some (.sc (.nilFunc)) := by kernel_rfl
attribute [simp] Tryz.underlying250
@[simp] theorem tagg250 : tagg Tryz.prog 250 = some false := by kernel_rfl
@[simp] theorem tsize250 : tsize Tryz.prog 250 = some 1 := by kernel_rfl
@[simp] theorem tbytes250 : tbytes Tryz.prog 250 = some 8 := by kernel_rfl
@[simp] theorem tzero250 : tzero Tryz.prog 250 = some (.sc (.nilFunc)) := by kernel_rfl
attribute [simp] Tryz.underlying251
@[simp] theorem tagg251 : tagg Tryz.prog 251 = some false := by kernel_rfl
@[simp] theorem tsize251 : tsize Tryz.prog 251 = some 1 := by kernel_rfl
@[simp] theorem tbytes251 : tbytes Tryz.prog 251 = some 8 := by kernel_rfl
@[simp] theorem tzero251 : tzero Tryz.prog 251 = some (.sc (.nilFunc)) := by kernel_rfl
attribute [simp] Tryz.underlying252
@[simp] theorem tagg252 : tagg Tryz.prog 252 = some false := by kernel_rfl
@[simp] theorem tsize252 : tsize Tryz.prog 252 = some 1 := by kernel_rfl
@[simp] theorem tbytes252 : tbytes Tryz.prog 252 = some 8 := by kernel_rfl
@[simp] theorem tzero252 : tzero Tryz.prog 252 = some (.sc (.nilFunc)) := by kernel_rfl
attribute [simp] Tryz.underlying253
@[simp] theorem tagg253 : tagg Tryz.prog 253 = some false := by kernel_rfl
@[simp] theorem tsize253 : tsize Tryz.prog 253 = some 1 := by kernel_rfl
@[simp] theorem tbytes253 : tbytes Tryz.prog 253 = some 8 := by kernel_rfl
@[simp] theorem tzero253 : tzero Tryz.prog 253 = some (.sc (.nilFunc)) := by kernel_rfl
attribute [simp] Tryz.underlying254
@[simp] theorem tagg254 : tagg Tryz.prog 254 = some false := by kernel_rfl
@[simp] theorem tsize254 : tsize Tryz.prog 254 = some 1 := by kernel_rfl
@[simp] theorem tbytes254 : tbytes Tryz.prog 254 = some 8 := by kernel_rfl
@[simp] theorem tzero254 : tzero Tryz.prog 254 = some (.sc (.nilFunc)) := by kernel_rfl
attribute [simp] Tryz.underlying255
@[simp] theorem tagg255 : tagg Tryz.prog 255 = some false := by kernel_rfl
@[simp] theorem tsize255 : tsize Tryz.prog 255 = some 1 := by kernel_rfl
@[simp] theorem tbytes255 : tbytes Tryz.prog 255 = some 8 := by kernel_rfl
@[simp] theorem tzero255 : tzero Tryz.prog 255 = some (.sc (.nilFunc)) := by kernel_rfl
attribute [simp] Tryz.underlying256
@[simp] theorem tagg256 : tagg Tryz.prog 256 = some false := by kernel_rfl
@[simp] theorem tsize256 : tsize Tryz.prog 256 = some 1 := by kernel_rfl
@[simp] theorem tbytes256 : tbytes Tryz.prog 256 = some 8 := by kernel_rfl
@[simp] theorem tzero256 : tzero Tryz.prog 256 = some (.sc (.nilFunc)) := by kernel_rfl
attribute [simp] Tryz.underlying257
@[simp] theorem tagg257 : tagg Tryz.prog 257 = some false := by kernel_rfl
@[simp] theorem tsize257 : tsize Tryz.prog 257 = some 1 := by kernel_rfl
@[simp] theorem tbytes257 : tbytes Tryz.prog 257 = some 8 := by kernel_rfl
@[simp] theorem tzero257 : tzero Tryz.prog 257 = some (.sc (.nilFunc)) := by kernel_rfl
attribute [simp] Tryz.underlying258
@[simp] theorem tagg258 : tagg Tryz.prog 258 = some false := by kernel_rfl
@[simp] theorem tsize258 : tsize Tryz.prog 258 = some 1 := by kernel_rfl
@[simp] theorem tbytes258 : tbytes Tryz.prog 258 = some 8 := by kernel_rfl
@[simp] theorem tzero258 : tzero Tryz.prog 258 = some (.sc (.nilFunc)) := by kernel_rfl
attribute [simp] Tryz.underlying259
@[simp] theorem tagg259 : tagg Tryz.prog 259 = some false := by kernel_rfl
@[simp] theorem tsize259 : tsize Tryz.prog 259 = some 1 := by kernel_rfl
@[simp] theorem tbytes259 : tbytes Tryz.prog 259 = some 8 := by kernel_rfl
@[simp] theorem tzero259 : tzero Tryz.prog 259 = some (.sc (.nilFunc)) := by kernel_rfl
attribute [simp] Tryz.underlying260
@[simp] theorem tagg260 : tagg Tryz.prog 260 = some false := by kernel_rfl
@[simp] theorem tsize260 : tsize Tryz.prog 260 = some 1 := by kernel_rfl
@[simp] theorem tbytes260 : tbytes Tryz.prog 260 = some 8 := by kernel_rfl
@[simp] theorem tzero260 : tzero Tryz.prog 260 = some (.sc (.nilFunc)) := by kernel_rfl
attribute [simp] Tryz.underlying261
@[simp] theorem tagg261 : tagg Tryz.prog 261 = some false := by kernel_rfl
@[simp] theorem tsize261 : tsize Tryz.prog 261 = some 1 := by kernel_rfl
@[simp] theorem tbytes261 : tbytes Tryz.prog 261 = some 8 := by kernel_rfl
@[simp] theorem tzero261 : tzero Tryz.prog 261 = some (.sc (.nilFunc)) := by kernel_rfl
attribute [simp] Tryz.underlying262
@[simp] theorem tagg262 : tagg Tryz.prog 262 = some false := by kernel_rfl
@[simp] theorem tsize262 : tsize Tryz.prog 262 = some 1 := by kernel_rfl
@[simp] theorem tbytes262 : tbytes Tryz.prog 262 = some 8 := by kernel_rfl
@[simp] theorem tzero262 : tzero Tryz.prog 262 = some (.sc (.nilFunc)) := by kernel_rfl
attribute [simp] Tryz.underlying263
@[simp] theorem tagg263 : tagg Tryz.prog 263 = some false := by kernel_rfl
@[simp] theorem tsize263 : tsize Tryz.prog 263 = some 1 := by kernel_rfl
@[simp] theorem tbytes263 : tbytes Tryz.prog 263 = some 8 := by kernel_rfl
@[simp] theorem tzero263 : tzero Tryz.prog 263 = some (.sc (.nilFunc)) := by kernel_rfl
attribute [simp] Tryz.underlying264
@[simp] theorem tagg264 : tagg Tryz.prog 264 = some false := by kernel_rfl
@[simp] theorem tsize264 : tsize Tryz.prog 264 = some 1 := by kernel_rfl
@[simp] theorem tbytes264 : tbytes Tryz.prog 264 = some 8 := by kernel_rfl
@[simp] theorem tzero264 : tzero Tryz.prog 264 = some (.sc (.nilFunc)) := by kernel_rfl
attribute [simp] Tryz.underlying265
@[simp] theorem tagg265 : tagg Tryz.prog 265 = some false := by kernel_rfl
@[simp] theorem tsize265 : tsize Tryz.prog 265 = some 1 := by kernel_rfl
@[simp] theorem tbytes265 : tbytes Tryz.prog 265 = some 24 := by kernel_rfl
@[simp] theorem tzero265 : tzero Tryz.prog 265 = some (.emp 0) := by kernel_rfl
@[simp] theorem telem265 : telem Tryz.prog 265 = some 269 := by kernel_rfl
@[simp] theorem nofz265 : nofz Tryz.prog 265 = false := by kernel_rfl
attribute [simp] Tryz.underlying267
@[simp] theorem tagg267 : tagg Tryz.prog 267 = some false := by kernel_rfl
@[simp] theorem tsize267 : tsize Tryz.prog 267 = some 1 := by kernel_rfl
@[simp] theorem tbytes267 : tbytes Tryz.prog 267 = some 8 := by kernel_rfl
@[simp] theorem tzero267 : tzero Tryz.prog 267 = some (.sc (.nilFunc)) := by kernel_rfl
attribute [simp] Tryz.underlying268
@[simp] theorem tagg268 : tagg Tryz.prog 268 = some true := by kernel_rfl
@[simp] theorem tsize268 : tsize Tryz.prog 268 = some 7 := by kernel_rfl
@[simp] theorem tbytes268 : tbytes Tryz.prog 268 = some 112 := by kernel_rfl
@[simp] theorem tzero268 : tzero Tryz.prog 268 = some (.agg [.sc (.int .i64 0), .sc (.int .i64 0), .sc (.string ⟨⟨[]⟩⟩), .emp 0, .emp 0, .emp 0, .sc (.bool false)]) := by kernel_rfl
@[simp] theorem fieldAddr268_0 {id off : Nat} : afieldAddr Tryz.prog 268 (.ptr id off) 0 = some (.ptr id (off + 0)) := by simp [afieldAddr, tfield]
@[simp] theorem fieldAddr268_0c {x : AV} {off : Nat} : afieldAddr Tryz.prog 268 (.cptr x off) 0 = some (.cptr x (off + 0)) := by simp [afieldAddr, tfield]
@[simp] theorem fieldAddr268_1 {id off : Nat} : afieldAddr Tryz.prog 268 (.ptr id off) 1 = some (.ptr id (off + 6)) := by simp [afieldAddr, tfield]
@[simp] theorem fieldAddr268_1c {x : AV} {off : Nat} : afieldAddr Tryz.prog 268 (.cptr x off) 1 = some (.cptr x (off + 6)) := by simp [afieldAddr, tfield]
attribute [simp] Tryz.underlying269
@[simp] theorem tagg269 : tagg Tryz.prog 269 = some true := by kernel_rfl
@[simp] theorem tsize269 : tsize Tryz.prog 269 = some 7 := by kernel_rfl
@[simp] theorem tbytes269 : tbytes Tryz.prog 269 = some 112 := by kernel_rfl
@[simp] theorem tzero269 : tzero Tryz.prog 269 = some (.agg [.sc (.int .i64 0), .sc (.int .i64 0), .sc (.string ⟨⟨[]⟩⟩), .emp 0, .emp 0, .emp 0, .sc (.bool false)]) := by kernel_rfl
@[simp] theorem fieldAddr269_0 {id off : Nat} : afieldAddr Tryz.prog 269 (.ptr id off) 0 = some (.ptr id (off + 0)) := by simp [afieldAddr, tfield]
@[simp] theorem fieldAddr269_0c {x : AV} {off : Nat} : afieldAddr Tryz.prog 269 (.cptr x off) 0 = some (.cptr x (off + 0)) := by simp [afieldAddr, tfield]
@[simp] theorem fieldAddr269_1 {id off : Nat} : afieldAddr Tryz.prog 269 (.ptr id off) 1 = some (.ptr id (off + 6)) := by simp [afieldAddr, tfield]
@[simp] theorem fieldAddr269_1c {x : AV} {off : Nat} : afieldAddr Tryz.prog 269 (.cptr x off) 1 = some (.cptr x (off + 6)) := by simp [afieldAddr, tfield]
attribute [simp] Tryz.underlying270
@[simp] theorem tagg270 : tagg Tryz.prog 270 = some false := by kernel_rfl
@[simp] theorem tsize270 : tsize Tryz.prog 270 = some 1 := by kernel_rfl
@[simp] theorem tbytes270 : tbytes Tryz.prog 270 = some 8 := by kernel_rfl
@[simp] theorem tzero270 : tzero Tryz.prog 270 = some (.sc (.nilFunc)) := by kernel_rfl
attribute [simp] Tryz.underlying271
@[simp] theorem tagg271 : tagg Tryz.prog 271 = some false := by kernel_rfl
@[simp] theorem tsize271 : tsize Tryz.prog 271 = some 1 := by kernel_rfl
@[simp] theorem tbytes271 : tbytes Tryz.prog 271 = some 8 := by kernel_rfl
@[simp] theorem tzero271 : tzero Tryz.prog 271 = some (.sc (.nilFunc)) := by kernel_rfl
attribute [simp] Tryz.underlying272
@[simp] theorem tagg272 : tagg Tryz.prog 272 = some false := by kernel_rfl
@[simp] theorem tsize272 : tsize Tryz.prog 272 = some 1 := by kernel_rfl
@[simp] theorem tbytes272 : tbytes Tryz.prog 272 = some 8 := by kernel_rfl
@[simp] theorem tzero272 : tzero Tryz.prog 272 = some (.sc (.pointer Option.none)) := by kernel_rfl
attribute [simp] Tryz.underlying274
@[simp] theorem tagg274 : tagg Tryz.prog 274 = some false := by kernel_rfl
@[simp] theorem tsize274 : tsize Tryz.prog 274 = some 1 := by kernel_rfl
@[simp] theorem tbytes274 : tbytes Tryz.prog 274 = some 8 := by kernel_rfl
@[simp] theorem tzero274 : tzero Tryz.prog 274 = some (.sc (.nilFunc)) := by kernel_rfl
attribute [simp] Tryz.underlying276
@[simp] theorem tagg276 : tagg Tryz.prog 276 = some false := by kernel_rfl
@[simp] theorem tsize276 : tsize Tryz.prog 276 = some 1 := by kernel_rfl
@[simp] theorem tbytes276 : tbytes Tryz.prog 276 = some 8 := by kernel_rfl
@[simp] theorem tzero276 : tzero Tryz.prog 276 = some (.sc (.nilFunc)) := by kernel_rfl
attribute [simp] Tryz.underlying277
@[simp] theorem tagg277 : tagg Tryz.prog 277 = some false := by kernel_rfl
@[simp] theorem tsize277 : tsize Tryz.prog 277 = some 1 := by kernel_rfl
@[simp] theorem tbytes277 : tbytes Tryz.prog 277 = some 8 := by kernel_rfl
@[simp] theorem tzero277 : tzero Tryz.prog 277 = some (.sc (.nilFunc)) := by kernel_rfl
attribute [simp] Tryz.underlying278
@[simp] theorem tagg278 : tagg Tryz.prog 278 = some false := by kernel_rfl
@[simp] theorem tsize278 : tsize Tryz.prog 278 = some 1 := by kernel_rfl
@[simp] theorem tbytes278 : tbytes Tryz.prog 278 = some 8 := by kernel_rfl
@[simp] theorem tzero278 : tzero Tryz.prog 278 = some (.sc (.nilFunc)) := by kernel_rfl
attribute [simp] Tryz.underlying280
@[simp] theorem tagg280 : tagg Tryz.prog 280 = some false := by kernel_rfl
@[simp] theorem tsize280 : tsize Tryz.prog 280 = some 1 := by kernel_rfl
@[simp] theorem tbytes280 : tbytes Tryz.prog 280 = some 8 := by kernel_rfl
@[simp] theorem tzero280 : tzero Tryz.prog 280 = some (.sc (.nilFunc)) := by kernel_rfl
attribute [simp] Tryz.underlying281
@[simp] theorem tagg281 : tagg Tryz.prog 281 = some false := by kernel_rfl
@[simp] theorem tsize281 : tsize Tryz.prog 281 = some 1 := by kernel_rfl
@[simp] theorem tbytes281 : tbytes Tryz.prog 281 = some 8 := by kernel_rfl
@[simp] theorem tzero281 : tzero Tryz.prog 281 = some (.sc (.nilFunc)) := by kernel_rfl
attribute [simp] Tryz.underlying282
@[simp] theorem tagg282 : tagg Tryz.prog 282 = some false := by kernel_rfl
@[simp] theorem tsize282 : tsize Tryz.prog 282 = some 1 := by kernel_rfl
@[simp] theorem tbytes282 : tbytes Tryz.prog 282 = some 8 := by kernel_rfl
@[simp] theorem tzero282 : tzero Tryz.prog 282 = some (.sc (.nilFunc)) := by kernel_rfl
attribute [simp] Tryz.underlying283
@[simp] theorem tagg283 : tagg Tryz.prog 283 = some false := by kernel_rfl
@[simp] theorem tsize283 : tsize Tryz.prog 283 = some 1 := by kernel_rfl
@[simp] theorem tbytes283 : tbytes Tryz.prog 283 = some 8 := by kernel_rfl
@[simp] theorem tzero283 : tzero Tryz.prog 283 = some (.sc (.nilFunc)) := by kernel_rfl
attribute [simp] Tryz.underlying284
@[simp] theorem tagg284 : tagg Tryz.prog 284 = some false := by kernel_rfl
@[simp] theorem tsize284 : tsize Tryz.prog 284 = some 1 := by kernel_rfl
@[simp] theorem tbytes284 : tbytes Tryz.prog 284 = some 8 := by kernel_rfl
@[simp] theorem tzero284 : tzero Tryz.prog 284 = some (.sc (.nilFunc)) := by kernel_rfl
attribute [simp] Tryz.underlying285
@[simp] theorem tagg285 : tagg Tryz.prog 285 = some false := by kernel_rfl
@[simp] theorem tsize285 : tsize Tryz.prog 285 = some 1 := by kernel_rfl
@[simp] theorem tbytes285 : tbytes Tryz.prog 285 = some 24 := by kernel_rfl
@[simp] theorem tzero285 : tzero Tryz.prog 285 = some (.emp 0) := by kernel_rfl
@[simp] theorem telem285 : telem Tryz.prog 285 = some 35 := by kernel_rfl
@[simp] theorem nofz285 : nofz Tryz.prog 285 = false := by kernel_rfl
attribute [simp] Tryz.underlying286
@[simp] theorem tagg286 : tagg Tryz.prog 286 = some false := by kernel_rfl
@[simp] theorem tsize286 : tsize Tryz.prog 286 = some 1 := by kernel_rfl
@[simp] theorem tbytes286 : tbytes Tryz.prog 286 = some 8 := by kernel_rfl
@[simp] theorem tzero286 : tzero Tryz.prog 286 = some (.sc (.nilFunc)) := by kernel_rfl
attribute [simp] Tryz.underlying287
@[simp] theorem tagg287 : tagg Tryz.prog 287 = some false := by kernel_rfl
@[simp] theorem tsize287 : tsize Tryz.prog 287 = some 1 := by kernel_rfl
@[simp] theorem tbytes287 : tbytes Tryz.prog 287 = some 8 := by kernel_rfl
@[simp] theorem tzero287 : tzero Tryz.prog 287 = some (.sc (.nilFunc)) := by kernel_rfl
attribute [simp] Tryz.underlying288
@[simp] theorem tagg288 : tagg Tryz.prog 288 = some false := by kernel_rfl
@[simp] theorem tsize288 : tsize Tryz.prog 288 = some 1 := by kernel_rfl
@[simp] theorem tbytes288 : tbytes Tryz.prog 288 = some 8 := by kernel_rfl
@[simp] theorem tzero288 : tzero Tryz.prog 288 = some (.sc (.nilFunc)) := by kernel_rfl
attribute [simp] Tryz.underlying289
@[simp] theorem tagg289 : tagg Tryz.prog 289 = some true := by kernel_rfl
@[simp] theorem tsize289 : tsize Tryz.prog 289 = some 24 := by kernel_rfl
@[simp] theorem tbytes289 : tbytes Tryz.prog 289 = some 24 := by kernel_rfl
@[simp] theorem tzero289 : tzero Tryz.prog 289 = some (.agg [.sc (.int .u8 0), .sc (.int .u8 0), .sc (.int .u8 0), .sc (.int .u8 0), .sc (.int .u8 0), .sc (.int .u8 0), .sc (.int .u8 0), .sc (.int .u8 0), .sc (.int .u8 0), .sc (.int .u8 0), .sc (.int .u8 0), .sc (.int .u8 0), .sc (.int .u8 0), .sc (.int .u8 0), .sc (.int .u8 0), .sc (.int .u8 0), .sc (.int .u8 0), .sc (.int .u8 0), .sc (.int .u8 0), .sc (.int .u8 0), .sc (.int .u8 0), .sc (.int .u8 0), .sc (.int .u8 0), .sc (.int .u8 0)]) := by kernel_rfl
@[simp] theorem tarr289 : tarr Tryz.prog 289 = some (24, 5) := by kernel_rfl
attribute [simp] Tryz.underlying290
@[simp] theorem tagg290 : tagg Tryz.prog 290 = some false := by kernel_rfl
@[simp] theorem tsize290 : tsize Tryz.prog 290 = some 1 := by kernel_rfl
@[simp] theorem tbytes290 : tbytes Tryz.prog 290 = some 8 := by kernel_rfl
@[simp] theorem tzero290 : tzero Tryz.prog 290 = some (.sc (.nilFunc)) := by kernel_rfl
attribute [simp] Tryz.underlying292
@[simp] theorem tagg292 : tagg Tryz.prog 292 = some false := by kernel_rfl
@[simp] theorem tsize292 : tsize Tryz.prog 292 = some 1 := by kernel_rfl
@[simp] theorem tbytes292 : tbytes Tryz.prog 292 = some 8 := by kernel_rfl
@[simp] theorem tzero292 : tzero Tryz.prog 292 = some (.sc (.nilFunc)) := by kernel_rfl
attribute [simp] Tryz.underlying293
@[simp] theorem tagg293 : tagg Tryz.prog 293 = some false := by kernel_rfl
@[simp] theorem tsize293 : tsize Tryz.prog 293 = some 1 := by kernel_rfl
@[simp] theorem tbytes293 : tbytes Tryz.prog 293 = some 8 := by kernel_rfl
@[simp] theorem tzero293 : tzero Tryz.prog 293 = some (.sc (.nilFunc)) := by kernel_rfl
attribute [simp] Tryz.underlying294
@[simp] theorem tagg294 : tagg Tryz.prog 294 = some false := by kernel_rfl
@[simp] theorem tsize294 : tsize Tryz.prog 294 = some 1 := by kernel_rfl
@[simp] theorem tbytes294 : tbytes Tryz.prog 294 = some 8 := by kernel_rfl
@[simp] theorem tzero294 : tzero Tryz.prog 294 = some (.sc (.nilFunc)) := by kernel_rfl
attribute [simp] Tryz.underlying295
@[simp] theorem tagg295 : tagg Tryz.prog 295 = some false := by kernel_rfl
@[simp] theorem tsize295 : tsize Tryz.prog 295 = some 1 := by kernel_rfl
@[simp] theorem tbytes295 : tbytes Tryz.prog 295 = some 8 := by kernel_rfl
@[simp] theorem tzero295 : tzero Tryz.prog 295 = some (.sc (.nilFunc)) := by kernel_rfl
attribute [simp] Tryz.underlying296
@[simp] theorem tagg296 : tagg Tryz.prog 296 = some false := by kernel_rfl
@[simp] theorem tsize296 : tsize Tryz.prog 296 = some 1 := by kernel_rfl
@[simp] theorem tbytes296 : tbytes Tryz.prog 296 = some 8 := by kernel_rfl
@[simp] theorem tzero296 : tzero Tryz.prog 296 = some (.sc (.nilFunc)) := by kernel_rfl
attribute [simp] Tryz.underlying297
@[simp] theorem tagg297 : tagg Tryz.prog 297 = some true := by kernel_rfl
@[simp] theorem tsize297 : tsize Tryz.prog 297 = some 20 := by kernel_rfl
@[simp] theorem tbytes297 : tbytes Tryz.prog 297 = some 160 := by kernel_rfl
@[simp] theorem tzero297 : tzero Tryz.prog 297 = some (.agg [.sc (.int .u64 0), .sc (.int .u64 0), .sc (.int .u64 0), .sc (.int .u64 0), .sc (.int .u64 0), .sc (.int .u64 0), .sc (.int .u64 0), .sc (.int .u64 0), .sc (.int .u64 0), .sc (.int .u64 0), .sc (.int .u64 0), .sc (.int .u64 0), .sc (.int .u64 0), .sc (.int .u64 0), .sc (.int .u64 0), .sc (.int .u64 0), .sc (.int .u64 0), .sc (.int .u64 0), .sc (.int .u64 0), .sc (.int .u64 0)]) := by kernel_rfl
@[simp] theorem tarr297 : tarr Tryz.prog 297 = some (20, 206) := by kernel_rfl
attribute [simp] Tryz.underlying298
@[simp] theorem tagg298 : tagg Tryz.prog 298 = some true := by kernel_rfl
@[simp] theorem tsize298 : tsize Tryz.prog 298 = some 65 := by kernel_rfl
@[simp] theorem tbytes298 : tbytes Tryz.prog 298 = some 65 := by kernel_rfl
@[simp] theorem tarr298 : tarr Tryz.prog 298 = some (65, 5) := by kernel_rfl
attribute [simp] Tryz.underlying299
@[simp] theorem tagg299 : tagg Tryz.prog 299 = some true := by kernel_rfl
@[simp] theorem tsize299 : tsize Tryz.prog 299 = some 32 := by kernel_rfl
@[simp] theorem tbytes299 : tbytes Tryz.prog 299 = some 32 := by kernel_rfl
@[simp] theorem tzero299 : tzero Tryz.prog 299 = some (.agg [.sc (.int .u8 0), .sc (.int .u8 0), .sc (.int .u8 0), .sc (.int .u8 0), .sc (.int .u8 0), .sc (.int .u8 0), .sc (.int .u8 0), .sc (.int .u8 0), .sc (.int .u8 0), .sc (.int .u8 0), .sc (.int .u8 0), .sc (.int .u8 0), .sc (.int .u8 0), .sc (.int .u8 0), .sc (.int .u8 0), .sc (.int .u8 0), .sc (.int .u8 0), .sc (.int .u8 0), .sc (.int .u8 0), .sc (.int .u8 0), .sc (.int .u8 0), .sc (.int .u8 0), .sc (.int .u8 0), .sc (.int .u8 0), .sc (.int .u8 0), .sc (.int .u8 0), .sc (.int .u8 0), .sc (.int .u8 0), .sc (.int .u8 0), .sc (.int .u8 0), .sc (.int .u8 0), .sc (.int .u8 0)]) := by kernel_rfl
@[simp] theorem tarr299 : tarr Tryz.prog 299 = some (32, 5) := by kernel_rfl
attribute [simp] Tryz.underlying300
@[simp] theorem tagg300 : tagg Tryz.prog 300 = some true := by kernel_rfl
@[simp] theorem tsize300 : tsize Tryz.prog 300 = some 64 := by kernel_rfl
@[simp] theorem tbytes300 : tbytes Tryz.prog 300 = some 64 := by kernel_rfl
@[simp] theorem tarr300 : tarr Tryz.prog 300 = some (64, 5) := by kernel_rfl
attribute [simp] Tryz.underlying301
@[simp] theorem tagg301 : tagg Tryz.prog 301 = some false := by kernel_rfl
@[simp] theorem tsize301 : tsize Tryz.prog 301 = some 1 := by kernel_rfl
@[simp] theorem tbytes301 : tbytes Tryz.prog 301 = some 8 := by kernel_rfl
@[simp] theorem tzero301 : tzero Tryz.prog 301 = some (.sc (.nilFunc)) := by kernel_rfl
attribute [simp] Tryz.underlying302
@[simp] theorem tagg302 : tagg Tryz.prog 302 = some true := by kernel_rfl
@[simp] theorem tsize302 : tsize Tryz.prog 302 = some 4 := by kernel_rfl
@[simp] theorem tbytes302 : tbytes Tryz.prog 302 = some 40 := by kernel_rfl
@[simp] theorem tzero302 : tzero Tryz.prog 302 = some (.agg [.sc (.pointer Option.none), .sc (.pointer Option.none), .sc (.pointer Option.none), .sc (.string ⟨⟨[]⟩⟩)]) := by kernel_rfl
@[simp] theorem fieldAddr302_0 {id off : Nat} : afieldAddr Tryz.prog 302 (.ptr id off) 0 = some (.ptr id (off + 0)) := by simp [afieldAddr, tfield]
@[simp] theorem fieldAddr302_0c {x : AV} {off : Nat} : afieldAddr Tryz.prog 302 (.cptr x off) 0 = some (.cptr x (off + 0)) := by simp [afieldAddr, tfield]
@[simp] theorem fieldAddr302_1 {id off : Nat} : afieldAddr Tryz.prog 302 (.ptr id off) 1 = some (.ptr id (off + 1)) := by simp [afieldAddr, tfield]
@[simp] theorem fieldAddr302_1c {x : AV} {off : Nat} : afieldAddr Tryz.prog 302 (.cptr x off) 1 = some (.cptr x (off + 1)) := by simp [afieldAddr, tfield]
@[simp] theorem fieldAddr302_2 {id off : Nat} : afieldAddr Tryz.prog 302 (.ptr id off) 2 = some (.ptr id (off + 2)) := by simp [afieldAddr, tfield]
@[simp] theorem fieldAddr302_2c {x : AV} {off : Nat} : afieldAddr Tryz.prog 302 (.cptr x off) 2 = some (.cptr x (off + 2)) := by simp [afieldAddr, tfield]
@[simp] theorem fieldAddr302_3 {id off : Nat} : afieldAddr Tryz.prog 302 (.ptr id off) 3 = some (.ptr id (off + 3)) := by simp [afieldAddr, tfield]
@[simp] theorem fieldAddr302_3c {x : AV} {off : Nat} : afieldAddr Tryz.prog 302 (.cptr x off) 3 = some (.cptr x (off + 3)) := by simp [afieldAddr, tfield]
attribute [simp] Tryz.underlying303
@[simp] theorem tagg303 : tagg Tryz.prog 303 = some true := by kernel_rfl
@[simp] theorem tsize303 : tsize Tryz.prog 303 = some 4 := by kernel_rfl
@[simp] theorem tbytes303 : tbytes Tryz.prog 303 = some 40 := by kernel_rfl
@[simp] theorem tzero303 : tzero Tryz.prog 303 = some (.agg [.sc (.pointer Option.none), .sc (.pointer Option.none), .sc (.pointer Option.none), .sc (.string ⟨⟨[]⟩⟩)]) := by kernel_rfl
@[simp] theorem fieldAddr303_0 {id off : Nat} : afieldAddr Tryz.prog 303 (.ptr id off) 0 = some (.ptr id (off + 0)) := by simp [afieldAddr, tfield]
@[simp] theorem fieldAddr303_0c {x : AV} {off : Nat} : afieldAddr Tryz.prog 303 (.cptr x off) 0 = some (.cptr x (off + 0)) := by simp [afieldAddr, tfield]
@[simp] theorem fieldAddr303_1 {id off : Nat} : afieldAddr Tryz.prog 303 (.ptr id off) 1 = some (.ptr id (off + 1)) := by simp [afieldAddr, tfield]
@[simp] theorem fieldAddr303_1c {x : AV} {off : Nat} : afieldAddr Tryz.prog 303 (.cptr x off) 1 = some (.cptr x (off + 1)) := by simp [afieldAddr, tfield]
@[simp] theorem fieldAddr303_2 {id off : Nat} : afieldAddr Tryz.prog 303 (.ptr id off) 2 = some (.ptr id (off + 2)) := by simp [afieldAddr, tfield]
@[simp] theorem fieldAddr303_2c {x : AV} {off : Nat} : afieldAddr Tryz.prog 303 (.cptr x off) 2 = some (.cptr x (off + 2)) := by simp [afieldAddr, tfield]
@[simp] theorem fieldAddr303_3 {id off : Nat} : afieldAddr Tryz.prog 303 (.ptr id off) 3 = some (.ptr id (off + 3)) := by simp [afieldAddr, tfield]
@[simp] theorem fieldAddr303_3c {x : AV} {off : Nat} : afieldAddr Tryz.prog 303 (.cptr x off) 3 = some (.cptr x (off + 3)) := by simp [afieldAddr, tfield]
attribute [simp] Tryz.underlying304
@[simp] theorem tagg304 : tagg Tryz.prog 304 = some true := by kernel_rfl
@[simp] theorem tsize304 : tsize Tryz.prog 304 = some 0 := by kernel_rfl
@[simp] theorem tbytes304 : tbytes Tryz.prog 304 = some 0 := by kernel_rfl
@[simp] theorem tzero304 : tzero Tryz.prog 304 = some (.agg []) := by kernel_rfl
@[simp] theorem tarr304 : tarr Tryz.prog 304 = some (0, 16) := by kernel_rfl
attribute [simp] Tryz.underlying305
@[simp] theorem tagg305 : tagg Tryz.prog 305 = some true := by kernel_rfl
@[simp] theorem tsize305 : tsize Tryz.prog 305 = some 0 := by kernel_rfl
@[simp] theorem tbytes305 : tbytes Tryz.prog 305 = some 0 := by kernel_rfl
@[simp] theorem tzero305 : tzero Tryz.prog 305 = some (.agg []) := by kernel_rfl
attribute [simp] Tryz.underlying306
@[simp] theorem tagg306 : tagg Tryz.prog 306 = some true := by kernel_rfl
@[simp] theorem tsize306 : tsize Tryz.prog 306 = some 0 := by kernel_rfl
@[simp] theorem tbytes306 : tbytes Tryz.prog 306 = some 0 := by kernel_rfl
@[simp] theorem tzero306 : tzero Tryz.prog 306 = some (.agg []) := by kernel_rfl
attribute [simp] Tryz.underlying307
@[simp] theorem tagg307 : tagg Tryz.prog 307 = some false := by kernel_rfl
@[simp] theorem tsize307 : tsize Tryz.prog 307 = some 1 := by kernel_rfl
@[simp] theorem tbytes307 : tbytes Tryz.prog 307 = some 1 := by kernel_rfl
@[simp] theorem tzero307 : tzero Tryz.prog 307 = some (.sc (.int .u8 0)) := by kernel_rfl
attribute [simp] Tryz.underlying308
@[simp] theorem tagg308 : tagg Tryz.prog 308 = some false := by kernel_rfl
@[simp] theorem tsize308 : tsize Tryz.prog 308 = some 1 := by kernel_rfl
@[simp] theorem tbytes308 : tbytes Tryz.prog 308 = some 1 := by kernel_rfl
@[simp] theorem tzero308 : tzero Tryz.prog 308 = some (.sc (.int .u8 0)) := by kernel_rfl
attribute [simp] Tryz.underlying309
@[simp] theorem tagg309 : tagg Tryz.prog 309 = some false := by kernel_rfl
@[simp] theorem tsize309 : tsize Tryz.prog 309 = some 1 := by kernel_rfl
@[simp] theorem tbytes309 : tbytes Tryz.prog 309 = some 8 := by kernel_rfl
@[simp] theorem tzero309 : tzero Tryz.prog 309 = some (.sc (.nilFunc)) := by kernel_rfl
attribute [simp] Tryz.underlying310
@[simp] theorem tagg310 : tagg Tryz.prog 310 = some false := by kernel_rfl
@[simp] theorem tsize310 : tsize Tryz.prog 310 = some 1 := by kernel_rfl
@[simp] theorem tbytes310 : tbytes Tryz.prog 310 = some 8 := by kernel_rfl
@[simp] theorem tzero310 : tzero Tryz.prog 310 = some (.sc (.pointer Option.none)) := by kernel_rfl
attribute [simp] Tryz.underlying311
@[simp] theorem tagg311 : tagg Tryz.prog 311 = some false := by kernel_rfl
@[simp] theorem tsize311 : tsize Tryz.prog 311 = some 1 := by kernel_rfl
@[simp] theorem tbytes311 : tbytes Tryz.prog 311 = some 4 := by kernel_rfl
@[simp] theorem tzero311 : tzero Tryz.prog 311 = some (.sc (.int .i32 0)) := by kernel_rfl
attribute [simp] Tryz.underlying312
@[simp] theorem tagg312 : tagg Tryz.prog 312 = some false := by kernel_rfl
@[simp] theorem tsize312 : tsize Tryz.prog 312 = some 1 := by kernel_rfl
@[simp] theorem tbytes312 : tbytes Tryz.prog 312 = some 4 := by kernel_rfl
@[simp] theorem tzero312 : tzero Tryz.prog 312 = some (.sc (.int .i32 0)) := by kernel_rfl
attribute [simp] Tryz.underlying313
@[simp] theorem tagg313 : tagg Tryz.prog 313 = some true := by kernel_rfl
@[simp] theorem tsize313 : tsize Tryz.prog 313 = some 11 := by kernel_rfl
@[simp] theorem tbytes313 : tbytes Tryz.prog 313 = some 48 := by kernel_rfl
@[simp] theorem tzero313 : tzero Tryz.prog 313 = some (.agg [.sc (.int .u64 0), .sc (.int .u64 0), .sc (.int .u32 0), .sc (.int .u8 0), .sc (.int .u8 0), .sc (.int .u8 0), .sc (.int .u8 0), .sc (.nilFunc), .sc (.pointer Option.none), .sc (.int .i32 0), .sc (.int .i32 0)]) := by kernel_rfl
@[simp] theorem fieldAddr313_0 {id off : Nat} : afieldAddr Tryz.prog 313 (.ptr id off) 0 = some (.ptr id (off + 0)) := by simp [afieldAddr, tfield]
@[simp] theorem fieldAddr313_0c {x : AV} {off : Nat} : afieldAddr Tryz.prog 313 (.cptr x off) 0 = some (.cptr x (off + 0)) := by simp [afieldAddr, tfield]
@[simp] theorem fieldAddr313_1 {id off : Nat} : afieldAddr Tryz.prog 313 (.ptr id off) 1 = some (.ptr id (off + 1)) := by simp [afieldAddr, tfield]
@[simp] theorem fieldAddr313_1c {x : AV} {off : Nat} : afieldAddr Tryz.prog 313 (.cptr x off) 1 = some (.cptr x (off + 1)) := by simp [afieldAddr, tfield]
@[simp] theorem fieldAddr313_2 {id off : Nat} : afieldAddr Tryz.prog 313 (.ptr id off) 2 = some (.ptr id (off + 2)) := by simp [afieldAddr, tfield]
@[simp] theorem fieldAddr313_2c {x : AV} {off : Nat} : afieldAddr Tryz.prog 313 (.cptr x off) 2 = some (.cptr x (off + 2)) := by simp [afieldAddr, tfield]
@[simp] theorem fieldAddr313_3 {id off : Nat} : afieldAddr Tryz.prog 313 (.ptr id off) 3 = some (.ptr id (off + 3)) := by simp [afieldAddr, tfield]
@[simp] theorem fieldAddr313_3c {x : AV} {off : Nat} : afieldAddr Tryz.prog 313 (.cptr x off) 3 = some (.cptr x (off + 3)) := by simp [afieldAddr, tfield]
@[simp] theorem fieldAddr313_4 {id off : Nat} : afieldAddr Tryz.prog 313 (.ptr id off) 4 = some (.ptr id (off + 4)) := by simp [afieldAddr, tfield]
@[simp] theorem fieldAddr313_4c {x : AV} {off : Nat} : afieldAddr Tryz.prog 313 (.cptr x off) 4 = some (.cptr x (off + 4)) := by simp [afieldAddr, tfield]
@[simp] theorem fieldAddr313_5 {id off : Nat} : afieldAddr Tryz.prog 313 (.ptr id off) 5 = some (.ptr id (off + 5)) := by simp [afieldAddr, tfield]
@[simp] theorem fieldAddr313_5c {x : AV} {off : Nat} : afieldAddr Tryz.prog 313 (.cptr x off) 5 = some (.cptr x (off + 5)) := by simp [afieldAddr, tfield]
@[simp] theorem fieldAddr313_6 {id off : Nat} : afieldAddr Tryz.prog 313 (.ptr id off) 6 = some (.ptr id (off + 6)) := by simp [afieldAddr, tfield]
@[simp] theorem fieldAddr313_6c {x : AV} {off : Nat} : afieldAddr Tryz.prog 313 (.cptr x off) 6 = some (.cptr x (off + 6)) := by simp [afieldAddr, tfield]
@[simp] theorem fieldAddr313_7 {id off : Nat} : afieldAddr Tryz.prog 313 (.ptr id off) 7 = some (.ptr id (off + 7)) := by simp [afieldAddr, tfield]
@[simp] theorem fieldAddr313_7c {x : AV} {off : Nat} : afieldAddr Tryz.prog 313 (.cptr x off) 7 = some (.cptr x (off + 7)) := by simp [afieldAddr, tfield]
@[simp] theorem fieldAddr313_8 {id off : Nat} : afieldAddr Tryz.prog 313 (.ptr id off) 8 = some (.ptr id (off + 8)) := by simp [afieldAddr, tfield]
@[simp] theorem fieldAddr313_8c {x : AV} {off : Nat} : afieldAddr Tryz.prog 313 (.cptr x off) 8 = some (.cptr x (off + 8)) := by simp [afieldAddr, tfield]
@[simp] theorem fieldAddr313_9 {id off : Nat} : afieldAddr Tryz.prog 313 (.ptr id off) 9 = some (.ptr id (off + 9)) := by simp [afieldAddr, tfield]
@[simp] theorem fieldAddr313_9c {x : AV} {off : Nat} : afieldAddr Tryz.prog 313 (.cptr x off) 9 = some (.cptr x (off + 9)) := by simp [afieldAddr, tfield]
@[simp] theorem fieldAddr313_10 {id off : Nat} : afieldAddr Tryz.prog 313 (.ptr id off) 10 = some (.ptr id (off + 10)) := by simp [afieldAddr, tfield]
@[simp] theorem fieldAddr313_10c {x : AV} {off : Nat} : afieldAddr Tryz.prog 313 (.cptr x off) 10 = some (.cptr x (off + 10)) := by simp [afieldAddr, tfield]
attribute [simp] Tryz.underlying314
@[simp] theorem tagg314 : tagg Tryz.prog 314 = some true := by kernel_rfl
@[simp] theorem tsize314 : tsize Tryz.prog 314 = some 11 := by kernel_rfl
@[simp] theorem tbytes314 : tbytes Tryz.prog 314 = some 48 := by kernel_rfl
@[simp] theorem tzero314 : tzero Tryz.prog 314 = some (.agg [.sc (.int .u64 0), .sc (.int .u64 0), .sc (.int .u32 0), .sc (.int .u8 0), .sc (.int .u8 0), .sc (.int .u8 0), .sc (.int .u8 0), .sc (.nilFunc), .sc (.pointer Option.none), .sc (.int .i32 0), .sc (.int .i32 0)]) := by kernel_rfl
@[simp] theorem fieldAddr314_0 {id off : Nat} : afieldAddr Tryz.prog 314 (.ptr id off) 0 = some (.ptr id (off + 0)) := by simp [afieldAddr, tfield]
@[simp] theorem fieldAddr314_0c {x : AV} {off : Nat} : afieldAddr Tryz.prog 314 (.cptr x off) 0 = some (.cptr x (off + 0)) := by simp [afieldAddr, tfield]
@[simp] theorem fieldAddr314_1 {id off : Nat} : afieldAddr Tryz.prog 314 (.ptr id off) 1 = some (.ptr id (off + 1)) := by simp [afieldAddr, tfield]
@[simp] theorem fieldAddr314_1c {x : AV} {off : Nat} : afieldAddr Tryz.prog 314 (.cptr x off) 1 = some (.cptr x (off + 1)) := by simp [afieldAddr, tfield]
@[simp] theorem fieldAddr314_2 {id off : Nat} : afieldAddr Tryz.prog 314 (.ptr id off) 2 = some (.ptr id (off + 2)) := by simp [afieldAddr, tfield]
@[simp] theorem fieldAddr314_2c {x : AV} {off : Nat} : afieldAddr Tryz.prog 314 (.cptr x off) 2 = some (.cptr x (off + 2)) := by simp [afieldAddr, tfield]
@[simp] theorem fieldAddr314_3 {id off : Nat} : afieldAddr Tryz.prog 314 (.ptr id off) 3 = some (.ptr id (off + 3)) := by simp [afieldAddr, tfield]
@[simp] theorem fieldAddr314_3c {x : AV} {off : Nat} : afieldAddr Tryz.prog 314 (.cptr x off) 3 = some (.cptr x (off + 3)) := by simp [afieldAddr, tfield]
@[simp] theorem fieldAddr314_4 {id off : Nat} : afieldAddr Tryz.prog 314 (.ptr id off) 4 = some (.ptr id (off + 4)) := by simp [afieldAddr, tfield]
@[simp] theorem fieldAddr314_4c {x : AV} {off : Nat} : afieldAddr Tryz.prog 314 (.cptr x off) 4 = some (.cptr x (off + 4)) := by simp [afieldAddr, tfield]
@[simp] theorem fieldAddr314_5 {id off : Nat} : afieldAddr Tryz.prog 314 (.ptr id off) 5 = some (.ptr id (off + 5)) := by simp [afieldAddr, tfield]
@[simp] theorem fieldAddr314_5c {x : AV} {off : Nat} : afieldAddr Tryz.prog 314 (.cptr x off) 5 = some (.cptr x (off + 5)) := by simp [afieldAddr, tfield]
@[simp] theorem fieldAddr314_6 {id off : Nat} : afieldAddr Tryz.prog 314 (.ptr id off) 6 = some (.ptr id (off + 6)) := by simp [afieldAddr, tfield]
@[simp] theorem fieldAddr314_6c {x : AV} {off : Nat} : afieldAddr Tryz.prog 314 (.cptr x off) 6 = some (.cptr x (off + 6)) := by simp [afieldAddr, tfield]
@[simp] theorem fieldAddr314_7 {id off : Nat} : afieldAddr Tryz.prog 314 (.ptr id off) 7 = some (.ptr id (off + 7)) := by simp [afieldAddr, tfield]
@[simp] theorem fieldAddr314_7c {x : AV} {off : Nat} : afieldAddr Tryz.prog 314 (.cptr x off) 7 = some (.cptr x (off + 7)) := by simp [afieldAddr, tfield]
@[simp] theorem fieldAddr314_8 {id off : Nat} : afieldAddr Tryz.prog 314 (.ptr id off) 8 = some (.ptr id (off + 8)) := by simp [afieldAddr, tfield]
@[simp] theorem fieldAddr314_8c {x : AV} {off : Nat} : afieldAddr Tryz.prog 314 (.cptr x off) 8 = some (.cptr x (off + 8)) := by simp [afieldAddr, tfield]
@[simp] theorem fieldAddr314_9 {id off : Nat} : afieldAddr Tryz.prog 314 (.ptr id off) 9 = some (.ptr id (off + 9)) := by simp [afieldAddr, tfield]
@[simp] theorem fieldAddr314_9c {x : AV} {off : Nat} : afieldAddr Tryz.prog 314 (.cptr x off) 9 = some (.cptr x (off + 9)) := by simp [afieldAddr, tfield]
@[simp] theorem fieldAddr314_10 {id off : Nat} : afieldAddr Tryz.prog 314 (.ptr id off) 10 = some (.ptr id (off + 10)) := by simp [afieldAddr, tfield]
@[simp] theorem fieldAddr314_10c {x : AV} {off : Nat} : afieldAddr Tryz.prog 314 (.cptr x off) 10 = some (.cptr x (off + 10)) := by simp [afieldAddr, tfield]
theorem el22 : ElemOf Tryz.prog 22 1 false := ⟨⟨3, 8, .sc (.int .i64 0), telem22, tsize3, tbytes3, tzero3, tagg3, by kernel_rfl, by decide, by kernel_rfl⟩, by decide⟩
theorem el23 : ElemOf Tryz.prog 23 6 true := ⟨⟨25, 104, .agg zeroCells, telem23, tsize25, tbytes25, tzero25, tagg25, by kernel_rfl, by decide, by kernel_rfl⟩, by decide⟩
theorem el30 : ElemOf Tryz.prog 30 3 true := ⟨⟨71, 56, .agg [.emp 0, .emp 0, .sc (.int .i64 0)], telem30, tsize71, tbytes71, tzero71, tagg71, by kernel_rfl, by decide, by kernel_rfl⟩, by decide⟩
theorem el34 : ElemOf Tryz.prog 34 1 false := ⟨⟨28, 8, .sc (.pointer Option.none), telem34, tsize28, tbytes28, tzero28, tagg28, by kernel_rfl, by decide, by kernel_rfl⟩, by decide⟩
theorem el35 : ElemOf Tryz.prog 35 11 true := ⟨⟨37, 184, .agg [.sc (.int .i64 0), .sc (.int .i64 0), .sc (.string ⟨⟨[]⟩⟩), .sc (.int .i64 0), .sc (.int .i64 0), .sc (.string ⟨⟨[]⟩⟩), .emp 0, .emp 0, .emp 0, .emp 0, .emp 0], telem35, tsize37, tbytes37, tzero37, tagg37, by kernel_rfl, by decide, by kernel_rfl⟩, by decide⟩
theorem el44 : ElemOf Tryz.prog 44 1 false := ⟨⟨9, 16, .sc (.string ⟨⟨[]⟩⟩), telem44, tsize9, tbytes9, tzero9, tagg9, by kernel_rfl, by decide, by kernel_rfl⟩, by decide⟩
theorem el69 : ElemOf Tryz.prog 69 12 true := ⟨⟨184, 208, .agg [.sc (.int .i64 0), .sc (.int .i64 0), .sc (.string ⟨⟨[]⟩⟩), .emp 0, .emp 0, .emp 0, .sc (.int .i64 0), .sc (.int .i64 0), .sc (.string ⟨⟨[]⟩⟩), .emp 0, .emp 0, .emp 0], telem69, tsize184, tbytes184, tzero184, tagg184, by kernel_rfl, by decide, by kernel_rfl⟩, by decide⟩
theorem el93 : ElemOf Tryz.prog 93 10 true := ⟨⟨98, 152, .agg [.sc (.int .i64 0), .sc (.int .i64 0), .sc (.int .i64 0), .sc (.string ⟨⟨[]⟩⟩), .emp 0, .emp 0, .emp 0, .sc (.string ⟨⟨[]⟩⟩), .sc (.string ⟨⟨[]⟩⟩), .sc (.int .i64 0)], telem93, tsize98, tbytes98, tzero98, tagg98, by kernel_rfl, by decide, by kernel_rfl⟩, by decide⟩
theorem el104 : ElemOf Tryz.prog 104 7 true := ⟨⟨108, 112, .agg [.sc (.int .i64 0), .sc (.int .i64 0), .sc (.int .i64 0), .sc (.string ⟨⟨[]⟩⟩), .emp 0, .emp 0, .emp 0], telem104, tsize108, tbytes108, tzero108, tagg108, by kernel_rfl, by decide, by kernel_rfl⟩, by decide⟩
theorem el120 : ElemOf Tryz.prog 120 1 false := ⟨⟨23, 24, .emp 0, telem120, tsize23, tbytes23, tzero23, tagg23, by kernel_rfl, by decide, by kernel_rfl⟩, by decide⟩
theorem el153 : ElemOf Tryz.prog 153 5 true := ⟨⟨160, 48, .agg [.sc (.int .i64 0), .sc (.int .i64 0), .sc (.int .i64 0), .sc (.int .i64 0), .sc (.string ⟨⟨[]⟩⟩)], telem153, tsize160, tbytes160, tzero160, tagg160, by kernel_rfl, by decide, by kernel_rfl⟩, by decide⟩
theorem el186 : ElemOf Tryz.prog 186 14 true := ⟨⟨235, 240, .agg [.sc (.int .i64 0), .sc (.int .i64 0), .sc (.string ⟨⟨[]⟩⟩), .emp 0, .emp 0, .emp 0, .sc (.int .i64 0), .sc (.int .i64 0), .sc (.int .i64 0), .sc (.string ⟨⟨[]⟩⟩), .emp 0, .emp 0, .emp 0, .emp 0], telem186, tsize235, tbytes235, tzero235, tagg235, by kernel_rfl, by decide, by kernel_rfl⟩, by decide⟩
theorem el215 : ElemOf Tryz.prog 215 1 false := ⟨⟨5, 1, .sc (.int .u8 0), telem215, tsize5, tbytes5, tzero5, tagg5, by kernel_rfl, by decide, by kernel_rfl⟩, by decide⟩
theorem el265 : ElemOf Tryz.prog 265 7 true := ⟨⟨269, 112, .agg [.sc (.int .i64 0), .sc (.int .i64 0), .sc (.string ⟨⟨[]⟩⟩), .emp 0, .emp 0, .emp 0, .sc (.bool false)], telem265, tsize269, tbytes269, tzero269, tagg269, by kernel_rfl, by decide, by kernel_rfl⟩, by decide⟩
theorem el285 : ElemOf Tryz.prog 285 1 false := ⟨⟨35, 24, .emp 0, telem285, tsize35, tbytes35, tzero35, tagg35, by kernel_rfl, by decide, by kernel_rfl⟩, by decide⟩
end Go.Proofs.YtpagdpaiienjcaaGreatDoor
