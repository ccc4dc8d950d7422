import Derived.Test.YtnhcmcfgemoehaaVE
import Derived.Test.YtnhcmcfgemoehaaRows
/- What the program's types are, by a program. -/
set_option linter.unusedSimpArgs false
set_option linter.unusedVariables false
set_option linter.unusedSectionVars false
namespace Go.Proofs.Ytnhcmcfgemoehaa
open Go.V
@[simp] theorem okc_nilFunc : AV.okc (.sc .nilFunc) = true := Eq.trans rfl rfl
@[simp] theorem cells_nilFunc : AV.cells (.sc .nilFunc) = [.sc .nilFunc] := Eq.trans rfl rfl
@[simp] theorem okc_pointer {x : Option Addr} : AV.okc (.sc (.pointer x)) = true := Eq.trans rfl rfl
@[simp] theorem cells_pointer {x : Option Addr} : AV.cells (.sc (.pointer x)) = [.sc (.pointer x)] := Eq.trans rfl rfl
@[simp] theorem okc_map {x : Option Nat} : AV.okc (.sc (.map x)) = true := Eq.trans rfl rfl
@[simp] theorem cells_map {x : Option Nat} : AV.cells (.sc (.map x)) = [.sc (.map x)] := Eq.trans rfl rfl
@[simp] theorem okc_mp {x : Nat} : AV.okc (.mp x) = true := Eq.trans rfl rfl
@[simp] theorem cells_mp {x : Nat} : AV.cells (.mp x) = [.mp x] := Eq.trans rfl rfl
@[simp] theorem okc_iface {t : TypeId} {x : AV} : AV.okc (.iface t x) = true := Eq.trans rfl rfl
@[simp] theorem cells_iface {t : TypeId} {x : AV} : AV.cells (.iface t x) = [.iface t x] := Eq.trans rfl rfl
@[simp] theorem okc_nilIface : AV.okc (.sc .nilIface) = true := Eq.trans rfl rfl
@[simp] theorem cells_nilIface : AV.cells (.sc .nilIface) = [.sc .nilIface] := Eq.trans rfl rfl
attribute [simp] Try.underlying1
@[simp] theorem tagg1 : tagg Try.prog 1 = some false := by kernel_rfl
@[simp] theorem tsize1 : tsize Try.prog 1 = some 1 := by kernel_rfl
@[simp] theorem tbytes1 : tbytes Try.prog 1 = some 8 := by kernel_rfl
@[simp] theorem tzero1 : tzero Try.prog 1 = some (.sc (.nilFunc)) := by kernel_rfl
attribute [simp] Try.underlying2
@[simp] theorem tagg2 : tagg Try.prog 2 = some false := by kernel_rfl
@[simp] theorem tsize2 : tsize Try.prog 2 = some 1 := by kernel_rfl
@[simp] theorem tbytes2 : tbytes Try.prog 2 = some 8 := by kernel_rfl
@[simp] theorem tzero2 : tzero Try.prog 2 = some (.sc (.int .i64 0)) := by kernel_rfl
attribute [simp] Try.underlying3
@[simp] theorem tagg3 : tagg Try.prog 3 = some false := by kernel_rfl
@[simp] theorem tsize3 : tsize Try.prog 3 = some 1 := by kernel_rfl
@[simp] theorem tbytes3 : tbytes Try.prog 3 = some 8 := by kernel_rfl
@[simp] theorem tzero3 : tzero Try.prog 3 = some (.sc (.int .i64 0)) := by kernel_rfl
attribute [simp] Try.underlying4
@[simp] theorem tagg4 : tagg Try.prog 4 = some false := by kernel_rfl
@[simp] theorem tsize4 : tsize Try.prog 4 = some 1 := by kernel_rfl
@[simp] theorem tbytes4 : tbytes Try.prog 4 = some 1 := by kernel_rfl
@[simp] theorem tzero4 : tzero Try.prog 4 = some (.sc (.bool false)) := by kernel_rfl
attribute [simp] Try.underlying5
@[simp] theorem tagg5 : tagg Try.prog 5 = some false := by kernel_rfl
@[simp] theorem tsize5 : tsize Try.prog 5 = some 1 := by kernel_rfl
@[simp] theorem tbytes5 : tbytes Try.prog 5 = some 1 := by kernel_rfl
@[simp] theorem tzero5 : tzero Try.prog 5 = some (.sc (.int .u8 0)) := by kernel_rfl
attribute [simp] Try.underlying6
@[simp] theorem tagg6 : tagg Try.prog 6 = some false := by kernel_rfl
@[simp] theorem tsize6 : tsize Try.prog 6 = some 1 := by kernel_rfl
@[simp] theorem tbytes6 : tbytes Try.prog 6 = some 1 := by kernel_rfl
@[simp] theorem tzero6 : tzero Try.prog 6 = some (.sc (.int .u8 0)) := by kernel_rfl
attribute [simp] Try.underlying7
@[simp] theorem tagg7 : tagg Try.prog 7 = some true := by kernel_rfl
@[simp] theorem tsize7 : tsize Try.prog 7 = some 4 := by kernel_rfl
@[simp] theorem tbytes7 : tbytes Try.prog 7 = some 24 := by kernel_rfl
@[simp] theorem tzero7 : tzero Try.prog 7 = some (.agg [.sc (.int .i64 0), .sc (.int .i64 0), .sc (.bool false), .sc (.int .u8 0)]) := by kernel_rfl
@[simp] theorem fieldAddr7_0 {id off : Nat} : afieldAddr Try.prog 7 (.ptr id off) 0 = some (.ptr id (off + 0)) := by simp [afieldAddr, tfield]
@[simp] theorem fieldAddr7_0c {x : AV} {off : Nat} : afieldAddr Try.prog 7 (.cptr x off) 0 = some (.cptr x (off + 0)) := by simp [afieldAddr, tfield]
@[simp] theorem fieldAddr7_1 {id off : Nat} : afieldAddr Try.prog 7 (.ptr id off) 1 = some (.ptr id (off + 1)) := by simp [afieldAddr, tfield]
@[simp] theorem fieldAddr7_1c {x : AV} {off : Nat} : afieldAddr Try.prog 7 (.cptr x off) 1 = some (.cptr x (off + 1)) := by simp [afieldAddr, tfield]
@[simp] theorem fieldAddr7_2 {id off : Nat} : afieldAddr Try.prog 7 (.ptr id off) 2 = some (.ptr id (off + 2)) := by simp [afieldAddr, tfield]
@[simp] theorem fieldAddr7_2c {x : AV} {off : Nat} : afieldAddr Try.prog 7 (.cptr x off) 2 = some (.cptr x (off + 2)) := by simp [afieldAddr, tfield]
@[simp] theorem fieldAddr7_3 {id off : Nat} : afieldAddr Try.prog 7 (.ptr id off) 3 = some (.ptr id (off + 3)) := by simp [afieldAddr, tfield]
@[simp] theorem fieldAddr7_3c {x : AV} {off : Nat} : afieldAddr Try.prog 7 (.cptr x off) 3 = some (.cptr x (off + 3)) := by simp [afieldAddr, tfield]
attribute [simp] Try.underlying8
@[simp] theorem tagg8 : tagg Try.prog 8 = some true := by kernel_rfl
@[simp] theorem tsize8 : tsize Try.prog 8 = some 4 := by kernel_rfl
@[simp] theorem tbytes8 : tbytes Try.prog 8 = some 24 := by kernel_rfl
@[simp] theorem tzero8 : tzero Try.prog 8 = some (.agg [.sc (.int .i64 0), .sc (.int .i64 0), .sc (.bool false), .sc (.int .u8 0)]) := by kernel_rfl
@[simp] theorem fieldAddr8_0 {id off : Nat} : afieldAddr Try.prog 8 (.ptr id off) 0 = some (.ptr id (off + 0)) := by simp [afieldAddr, tfield]
@[simp] theorem fieldAddr8_0c {x : AV} {off : Nat} : afieldAddr Try.prog 8 (.cptr x off) 0 = some (.cptr x (off + 0)) := by simp [afieldAddr, tfield]
@[simp] theorem fieldAddr8_1 {id off : Nat} : afieldAddr Try.prog 8 (.ptr id off) 1 = some (.ptr id (off + 1)) := by simp [afieldAddr, tfield]
@[simp] theorem fieldAddr8_1c {x : AV} {off : Nat} : afieldAddr Try.prog 8 (.cptr x off) 1 = some (.cptr x (off + 1)) := by simp [afieldAddr, tfield]
@[simp] theorem fieldAddr8_2 {id off : Nat} : afieldAddr Try.prog 8 (.ptr id off) 2 = some (.ptr id (off + 2)) := by simp [afieldAddr, tfield]
@[simp] theorem fieldAddr8_2c {x : AV} {off : Nat} : afieldAddr Try.prog 8 (.cptr x off) 2 = some (.cptr x (off + 2)) := by simp [afieldAddr, tfield]
@[simp] theorem fieldAddr8_3 {id off : Nat} : afieldAddr Try.prog 8 (.ptr id off) 3 = some (.ptr id (off + 3)) := by simp [afieldAddr, tfield]
@[simp] theorem fieldAddr8_3c {x : AV} {off : Nat} : afieldAddr Try.prog 8 (.cptr x off) 3 = some (.cptr x (off + 3)) := by simp [afieldAddr, tfield]
attribute [simp] Try.underlying9
@[simp] theorem tagg9 : tagg Try.prog 9 = some false := by kernel_rfl
@[simp] theorem tsize9 : tsize Try.prog 9 = some 1 := by kernel_rfl
@[simp] theorem tbytes9 : tbytes Try.prog 9 = some 16 := by kernel_rfl
@[simp] theorem tzero9 : tzero Try.prog 9 = some (.sc (.string ⟨⟨[]⟩⟩)) := by kernel_rfl
attribute [simp] Try.underlying10
@[simp] theorem tagg10 : tagg Try.prog 10 = some false := by kernel_rfl
@[simp] theorem tsize10 : tsize Try.prog 10 = some 1 := by kernel_rfl
@[simp] theorem tbytes10 : tbytes Try.prog 10 = some 16 := by kernel_rfl
@[simp] theorem tzero10 : tzero Try.prog 10 = some (.sc (.string ⟨⟨[]⟩⟩)) := by kernel_rfl
attribute [simp] Try.underlying11
@[simp] theorem tagg11 : tagg Try.prog 11 = some false := by kernel_rfl
@[simp] theorem tsize11 : tsize Try.prog 11 = some 1 := by kernel_rfl
@[simp] theorem tbytes11 : tbytes Try.prog 11 = some 16 := by kernel_rfl
@[simp] theorem tzero11 : tzero Try.prog 11 = some (.sc (.string ⟨⟨[]⟩⟩)) := by kernel_rfl
attribute [simp] Try.underlying12
@[simp] theorem tagg12 : tagg Try.prog 12 = some false := by kernel_rfl
@[simp] theorem tsize12 : tsize Try.prog 12 = some 1 := by kernel_rfl
@[simp] theorem tbytes12 : tbytes Try.prog 12 = some 8 := by kernel_rfl
@[simp] theorem tzero12 : tzero Try.prog 12 = some (.sc (.int .u64 0)) := by kernel_rfl
attribute [simp] Try.underlying13
@[simp] theorem tagg13 : tagg Try.prog 13 = some true := by kernel_rfl
@[simp] theorem tsize13 : tsize Try.prog 13 = some 2 := by kernel_rfl
@[simp] theorem tbytes13 : tbytes Try.prog 13 = some 24 := by kernel_rfl
@[simp] theorem tzero13 : tzero Try.prog 13 = some (.agg [.sc (.string ⟨⟨[]⟩⟩), .sc (.int .u64 0)]) := by kernel_rfl
@[simp] theorem fieldAddr13_0 {id off : Nat} : afieldAddr Try.prog 13 (.ptr id off) 0 = some (.ptr id (off + 0)) := by simp [afieldAddr, tfield]
@[simp] theorem fieldAddr13_0c {x : AV} {off : Nat} : afieldAddr Try.prog 13 (.cptr x off) 0 = some (.cptr x (off + 0)) := by simp [afieldAddr, tfield]
@[simp] theorem fieldAddr13_1 {id off : Nat} : afieldAddr Try.prog 13 (.ptr id off) 1 = some (.ptr id (off + 1)) := by simp [afieldAddr, tfield]
@[simp] theorem fieldAddr13_1c {x : AV} {off : Nat} : afieldAddr Try.prog 13 (.cptr x off) 1 = some (.cptr x (off + 1)) := by simp [afieldAddr, tfield]
attribute [simp] Try.underlying14
@[simp] theorem tagg14 : tagg Try.prog 14 = some true := by kernel_rfl
@[simp] theorem tsize14 : tsize Try.prog 14 = some 2 := by kernel_rfl
@[simp] theorem tbytes14 : tbytes Try.prog 14 = some 24 := by kernel_rfl
@[simp] theorem tzero14 : tzero Try.prog 14 = some (.agg [.sc (.string ⟨⟨[]⟩⟩), .sc (.int .u64 0)]) := by kernel_rfl
@[simp] theorem fieldAddr14_0 {id off : Nat} : afieldAddr Try.prog 14 (.ptr id off) 0 = some (.ptr id (off + 0)) := by simp [afieldAddr, tfield]
@[simp] theorem fieldAddr14_0c {x : AV} {off : Nat} : afieldAddr Try.prog 14 (.cptr x off) 0 = some (.cptr x (off + 0)) := by simp [afieldAddr, tfield]
@[simp] theorem fieldAddr14_1 {id off : Nat} : afieldAddr Try.prog 14 (.ptr id off) 1 = some (.ptr id (off + 1)) := by simp [afieldAddr, tfield]
@[simp] theorem fieldAddr14_1c {x : AV} {off : Nat} : afieldAddr Try.prog 14 (.cptr x off) 1 = some (.cptr x (off + 1)) := by simp [afieldAddr, tfield]
attribute [simp] Try.underlying15
@[simp] theorem tagg15 : tagg Try.prog 15 = some false := by kernel_rfl
@[simp] theorem tsize15 : tsize Try.prog 15 = some 1 := by kernel_rfl
@[simp] theorem tbytes15 : tbytes Try.prog 15 = some 8 := by kernel_rfl
@[simp] theorem tzero15 : tzero Try.prog 15 = some (.sc (.pointer Option.none)) := by kernel_rfl
attribute [simp] Try.underlying16
@[simp] theorem tagg16 : tagg Try.prog 16 = some false := by kernel_rfl
@[simp] theorem tsize16 : tsize Try.prog 16 = some 1 := by kernel_rfl
@[simp] theorem tbytes16 : tbytes Try.prog 16 = some 8 := by kernel_rfl
@[simp] theorem tzero16 : tzero Try.prog 16 = some (.sc (.pointer Option.none)) := by kernel_rfl
attribute [simp] Try.underlying17
@[simp] theorem tagg17 : tagg Try.prog 17 = some false := by kernel_rfl
@[simp] theorem tsize17 : tsize Try.prog 17 = some 1 := by kernel_rfl
@[simp] theorem tbytes17 : tbytes Try.prog 17 = some 8 := by kernel_rfl
@[simp] theorem tzero17 : tzero Try.prog 17 = some (.sc (.pointer Option.none)) := by kernel_rfl
attribute [simp] Try.underlying18
@[simp] theorem tagg18 : tagg Try.prog 18 = some true := by kernel_rfl
@[simp] theorem tsize18 : tsize Try.prog 18 = some 1 := by kernel_rfl
@[simp] theorem tbytes18 : tbytes Try.prog 18 = some 8 := by kernel_rfl
@[simp] theorem tzero18 : tzero Try.prog 18 = some (.agg [.sc (.pointer Option.none)]) := by kernel_rfl
@[simp] theorem fieldAddr18_0 {id off : Nat} : afieldAddr Try.prog 18 (.ptr id off) 0 = some (.ptr id (off + 0)) := by simp [afieldAddr, tfield]
@[simp] theorem fieldAddr18_0c {x : AV} {off : Nat} : afieldAddr Try.prog 18 (.cptr x off) 0 = some (.cptr x (off + 0)) := by simp [afieldAddr, tfield]
attribute [simp] Try.underlying19
@[simp] theorem tagg19 : tagg Try.prog 19 = some true := by kernel_rfl
@[simp] theorem tsize19 : tsize Try.prog 19 = some 1 := by kernel_rfl
@[simp] theorem tbytes19 : tbytes Try.prog 19 = some 8 := by kernel_rfl
@[simp] theorem tzero19 : tzero Try.prog 19 = some (.agg [.sc (.pointer Option.none)]) := by kernel_rfl
@[simp] theorem fieldAddr19_0 {id off : Nat} : afieldAddr Try.prog 19 (.ptr id off) 0 = some (.ptr id (off + 0)) := by simp [afieldAddr, tfield]
@[simp] theorem fieldAddr19_0c {x : AV} {off : Nat} : afieldAddr Try.prog 19 (.cptr x off) 0 = some (.cptr x (off + 0)) := by simp [afieldAddr, tfield]
attribute [simp] Try.underlying20
@[simp] theorem tagg20 : tagg Try.prog 20 = some false := by kernel_rfl
@[simp] theorem tsize20 : tsize Try.prog 20 = some 1 := by kernel_rfl
@[simp] theorem tbytes20 : tbytes Try.prog 20 = some 16 := by kernel_rfl
@[simp] theorem tzero20 : tzero Try.prog 20 = some (.sc (.nilIface)) := by kernel_rfl
attribute [simp] Try.underlying21
@[simp] theorem tagg21 : tagg Try.prog 21 = some false := by kernel_rfl
@[simp] theorem tsize21 : tsize Try.prog 21 = some 1 := by kernel_rfl
@[simp] theorem tbytes21 : tbytes Try.prog 21 = some 4 := by kernel_rfl
@[simp] theorem tzero21 : tzero Try.prog 21 = some (.sc (.int .i32 0)) := by kernel_rfl
attribute [simp] Try.underlying22
@[simp] theorem tagg22 : tagg Try.prog 22 = some false := by kernel_rfl
@[simp] theorem tsize22 : tsize Try.prog 22 = some 1 := by kernel_rfl
@[simp] theorem tbytes22 : tbytes Try.prog 22 = some 24 := by kernel_rfl
@[simp] theorem tzero22 : tzero Try.prog 22 = some (.emp 0) := by kernel_rfl
@[simp] theorem telem22 : telem Try.prog 22 = some 2 := by kernel_rfl
attribute [simp] Try.underlying23
@[simp] theorem tagg23 : tagg Try.prog 23 = some false := by kernel_rfl
@[simp] theorem tsize23 : tsize Try.prog 23 = some 1 := by kernel_rfl
@[simp] theorem tbytes23 : tbytes Try.prog 23 = some 8 := by kernel_rfl
@[simp] theorem tzero23 : tzero Try.prog 23 = some (.sc (.pointer Option.none)) := by kernel_rfl
attribute [simp] Try.underlying24
@[simp] theorem tagg24 : tagg Try.prog 24 = some false := by kernel_rfl
@[simp] theorem tsize24 : tsize Try.prog 24 = some 1 := by kernel_rfl
@[simp] theorem tbytes24 : tbytes Try.prog 24 = some 8 := by kernel_rfl
@[simp] theorem tzero24 : tzero Try.prog 24 = some (.sc (.int .i64 0)) := by kernel_rfl
attribute [simp] Try.underlying26
@[simp] theorem tagg26 : tagg Try.prog 26 = some false := by kernel_rfl
@[simp] theorem tsize26 : tsize Try.prog 26 = some 1 := by kernel_rfl
@[simp] theorem tbytes26 : tbytes Try.prog 26 = some 8 := by kernel_rfl
@[simp] theorem tzero26 : tzero Try.prog 26 = some (.sc (.nilFunc)) := by kernel_rfl
attribute [simp] Try.underlying27
@[simp] theorem tagg27 : tagg Try.prog 27 = some false := by kernel_rfl
@[simp] theorem tsize27 : tsize Try.prog 27 = some 1 := by kernel_rfl
@[simp] theorem tbytes27 : tbytes Try.prog 27 = some 8 := by kernel_rfl
@[simp] theorem tzero27 : tzero Try.prog 27 = some (.sc (.nilFunc)) := by kernel_rfl
attribute [simp] Try.underlying28
@[simp] theorem tagg28 : tagg Try.prog 28 = some true := by kernel_rfl
@[simp] theorem tsize28 : tsize Try.prog 28 = some 2 := by kernel_rfl
@[simp] theorem tbytes28 : tbytes Try.prog 28 = some 16 := by kernel_rfl
@[simp] theorem tzero28 : tzero Try.prog 28 = some (.agg [.sc (.int .i64 0), .sc (.int .i64 0)]) := by kernel_rfl
@[simp] theorem fieldAddr28_0 {id off : Nat} : afieldAddr Try.prog 28 (.ptr id off) 0 = some (.ptr id (off + 0)) := by simp [afieldAddr, tfield]
@[simp] theorem fieldAddr28_0c {x : AV} {off : Nat} : afieldAddr Try.prog 28 (.cptr x off) 0 = some (.cptr x (off + 0)) := by simp [afieldAddr, tfield]
@[simp] theorem fieldAddr28_1 {id off : Nat} : afieldAddr Try.prog 28 (.ptr id off) 1 = some (.ptr id (off + 1)) := by simp [afieldAddr, tfield]
@[simp] theorem fieldAddr28_1c {x : AV} {off : Nat} : afieldAddr Try.prog 28 (.cptr x off) 1 = some (.cptr x (off + 1)) := by simp [afieldAddr, tfield]
attribute [simp] Try.underlying29
@[simp] theorem tagg29 : tagg Try.prog 29 = some true := by kernel_rfl
@[simp] theorem tsize29 : tsize Try.prog 29 = some 2 := by kernel_rfl
@[simp] theorem tbytes29 : tbytes Try.prog 29 = some 16 := by kernel_rfl
@[simp] theorem tzero29 : tzero Try.prog 29 = some (.agg [.sc (.int .i64 0), .sc (.int .i64 0)]) := by kernel_rfl
@[simp] theorem fieldAddr29_0 {id off : Nat} : afieldAddr Try.prog 29 (.ptr id off) 0 = some (.ptr id (off + 0)) := by simp [afieldAddr, tfield]
@[simp] theorem fieldAddr29_0c {x : AV} {off : Nat} : afieldAddr Try.prog 29 (.cptr x off) 0 = some (.cptr x (off + 0)) := by simp [afieldAddr, tfield]
@[simp] theorem fieldAddr29_1 {id off : Nat} : afieldAddr Try.prog 29 (.ptr id off) 1 = some (.ptr id (off + 1)) := by simp [afieldAddr, tfield]
@[simp] theorem fieldAddr29_1c {x : AV} {off : Nat} : afieldAddr Try.prog 29 (.cptr x off) 1 = some (.cptr x (off + 1)) := by simp [afieldAddr, tfield]
attribute [simp] Try.underlying31
@[simp] theorem tagg31 : tagg Try.prog 31 = some false := by kernel_rfl
@[simp] theorem tsize31 : tsize Try.prog 31 = some 1 := by kernel_rfl
@[simp] theorem tbytes31 : tbytes Try.prog 31 = some 8 := by kernel_rfl
@[simp] theorem tzero31 : tzero Try.prog 31 = some (.sc (.nilFunc)) := by kernel_rfl
attribute [simp] Try.underlying32
@[simp] theorem tagg32 : tagg Try.prog 32 = some false := by kernel_rfl
@[simp] theorem tsize32 : tsize Try.prog 32 = some 1 := by kernel_rfl
@[simp] theorem tbytes32 : tbytes Try.prog 32 = some 8 := by kernel_rfl
@[simp] theorem tzero32 : tzero Try.prog 32 = some (.sc (.nilFunc)) := by kernel_rfl
attribute [simp] Try.underlying33
@[simp] theorem tagg33 : tagg Try.prog 33 = some false := by kernel_rfl
@[simp] theorem tsize33 : tsize Try.prog 33 = some 1 := by kernel_rfl
@[simp] theorem tbytes33 : tbytes Try.prog 33 = some 24 := by kernel_rfl
@[simp] theorem tzero33 : tzero Try.prog 33 = some (.emp 0) := by kernel_rfl
@[simp] theorem telem33 : telem Try.prog 33 = some 29 := by kernel_rfl
attribute [simp] Try.underlying34
@[simp] theorem tagg34 : tagg Try.prog 34 = some false := by kernel_rfl
@[simp] theorem tsize34 : tsize Try.prog 34 = some 1 := by kernel_rfl
@[simp] theorem tbytes34 : tbytes Try.prog 34 = some 24 := by kernel_rfl
@[simp] theorem tzero34 : tzero Try.prog 34 = some (.emp 0) := by kernel_rfl
@[simp] theorem telem34 : telem Try.prog 34 = some 3 := by kernel_rfl
attribute [simp] Try.underlying35
@[simp] theorem tagg35 : tagg Try.prog 35 = some false := by kernel_rfl
@[simp] theorem tsize35 : tsize Try.prog 35 = some 1 := by kernel_rfl
@[simp] theorem tbytes35 : tbytes Try.prog 35 = some 8 := by kernel_rfl
@[simp] theorem tzero35 : tzero Try.prog 35 = some (.sc (.nilFunc)) := by kernel_rfl
attribute [simp] Try.underlying36
@[simp] theorem tagg36 : tagg Try.prog 36 = some false := by kernel_rfl
@[simp] theorem tsize36 : tsize Try.prog 36 = some 1 := by kernel_rfl
@[simp] theorem tbytes36 : tbytes Try.prog 36 = some 8 := by kernel_rfl
@[simp] theorem tzero36 : tzero Try.prog 36 = some (.sc (.nilFunc)) := by kernel_rfl
attribute [simp] Try.underlying37
@[simp] theorem tagg37 : tagg Try.prog 37 = some false := by kernel_rfl
@[simp] theorem tsize37 : tsize Try.prog 37 = some 1 := by kernel_rfl
@[simp] theorem tbytes37 : tbytes Try.prog 37 = some 8 := by kernel_rfl
@[simp] theorem tzero37 : tzero Try.prog 37 = some (.sc (.map Option.none)) := by kernel_rfl
@[simp] theorem tmap37 : tmap Try.prog 37 = some (9, 4) := by kernel_rfl
attribute [simp] Try.underlying38
@[simp] theorem tagg38 : tagg Try.prog 38 = some false := by kernel_rfl
@[simp] theorem tsize38 : tsize Try.prog 38 = some 1 := by kernel_rfl
@[simp] theorem tbytes38 : tbytes Try.prog 38 = some 24 := by kernel_rfl
@[simp] theorem tzero38 : tzero Try.prog 38 = some (.emp 0) := by kernel_rfl
@[simp] theorem telem38 : telem Try.prog 38 = some 44 := by kernel_rfl
attribute [simp] Try.underlying39
@[simp] theorem tagg39 : tagg Try.prog 39 = some false := by kernel_rfl
@[simp] theorem tsize39 : tsize Try.prog 39 = some 1 := by kernel_rfl
@[simp] theorem tbytes39 : tbytes Try.prog 39 = some 8 := by kernel_rfl
@[simp] theorem tzero39 : tzero Try.prog 39 = some (.sc (.nilFunc)) := by kernel_rfl
attribute [simp] Try.underlying40
@[simp] theorem tagg40 : tagg Try.prog 40 = some false := by kernel_rfl
@[simp] theorem tsize40 : tsize Try.prog 40 = some 1 := by kernel_rfl
@[simp] theorem tbytes40 : tbytes Try.prog 40 = some 8 := by kernel_rfl
@[simp] theorem tzero40 : tzero Try.prog 40 = some (.sc (.nilFunc)) := by kernel_rfl
attribute [simp] Try.underlying41
@[simp] theorem tagg41 : tagg Try.prog 41 = some false := by kernel_rfl
@[simp] theorem tsize41 : tsize Try.prog 41 = some 1 := by kernel_rfl
@[simp] theorem tbytes41 : tbytes Try.prog 41 = some 8 := by kernel_rfl
@[simp] theorem tzero41 : tzero Try.prog 41 = some (.sc (.nilFunc)) := by kernel_rfl
attribute [simp] Try.underlying42
@[simp] theorem tagg42 : tagg Try.prog 42 = some false := by kernel_rfl
@[simp] theorem tsize42 : tsize Try.prog 42 = some 1 := by kernel_rfl
@[simp] theorem tbytes42 : tbytes Try.prog 42 = some 8 := by kernel_rfl
@[simp] theorem tzero42 : tzero Try.prog 42 = some (.sc (.nilFunc)) := by kernel_rfl
attribute [simp] Try.underlying43
@[simp] theorem tagg43 : tagg Try.prog 43 = some true := by kernel_rfl
@[simp] theorem tsize43 : tsize Try.prog 43 = some 2 := by kernel_rfl
@[simp] theorem tbytes43 : tbytes Try.prog 43 = some 24 := by kernel_rfl
@[simp] theorem tzero43 : tzero Try.prog 43 = some (.agg [.sc (.int .i64 0), .sc (.string ⟨⟨[]⟩⟩)]) := by kernel_rfl
@[simp] theorem fieldAddr43_0 {id off : Nat} : afieldAddr Try.prog 43 (.ptr id off) 0 = some (.ptr id (off + 0)) := by simp [afieldAddr, tfield]
@[simp] theorem fieldAddr43_0c {x : AV} {off : Nat} : afieldAddr Try.prog 43 (.cptr x off) 0 = some (.cptr x (off + 0)) := by simp [afieldAddr, tfield]
@[simp] theorem fieldAddr43_1 {id off : Nat} : afieldAddr Try.prog 43 (.ptr id off) 1 = some (.ptr id (off + 1)) := by simp [afieldAddr, tfield]
@[simp] theorem fieldAddr43_1c {x : AV} {off : Nat} : afieldAddr Try.prog 43 (.cptr x off) 1 = some (.cptr x (off + 1)) := by simp [afieldAddr, tfield]
attribute [simp] Try.underlying44
@[simp] theorem tagg44 : tagg Try.prog 44 = some true := by kernel_rfl
@[simp] theorem tsize44 : tsize Try.prog 44 = some 2 := by kernel_rfl
@[simp] theorem tbytes44 : tbytes Try.prog 44 = some 24 := by kernel_rfl
@[simp] theorem tzero44 : tzero Try.prog 44 = some (.agg [.sc (.int .i64 0), .sc (.string ⟨⟨[]⟩⟩)]) := by kernel_rfl
@[simp] theorem fieldAddr44_0 {id off : Nat} : afieldAddr Try.prog 44 (.ptr id off) 0 = some (.ptr id (off + 0)) := by simp [afieldAddr, tfield]
@[simp] theorem fieldAddr44_0c {x : AV} {off : Nat} : afieldAddr Try.prog 44 (.cptr x off) 0 = some (.cptr x (off + 0)) := by simp [afieldAddr, tfield]
@[simp] theorem fieldAddr44_1 {id off : Nat} : afieldAddr Try.prog 44 (.ptr id off) 1 = some (.ptr id (off + 1)) := by simp [afieldAddr, tfield]
@[simp] theorem fieldAddr44_1c {x : AV} {off : Nat} : afieldAddr Try.prog 44 (.cptr x off) 1 = some (.cptr x (off + 1)) := by simp [afieldAddr, tfield]
attribute [simp] Try.underlying46
@[simp] theorem tagg46 : tagg Try.prog 46 = some false := by kernel_rfl
@[simp] theorem tsize46 : tsize Try.prog 46 = some 1 := by kernel_rfl
@[simp] theorem tbytes46 : tbytes Try.prog 46 = some 8 := by kernel_rfl
@[simp] theorem tzero46 : tzero Try.prog 46 = some (.sc (.nilFunc)) := by kernel_rfl
attribute [simp] Try.underlying48
@[simp] theorem tagg48 : tagg Try.prog 48 = some false := by kernel_rfl
@[simp] theorem tsize48 : tsize Try.prog 48 = some 1 := by kernel_rfl
@[simp] theorem tbytes48 : tbytes Try.prog 48 = some 8 := by kernel_rfl
@[simp] theorem tzero48 : tzero Try.prog 48 = some (.sc (.nilFunc)) := by kernel_rfl
attribute [simp] Try.underlying49
@[simp] theorem tagg49 : tagg Try.prog 49 = some false := by kernel_rfl
@[simp] theorem tsize49 : tsize Try.prog 49 = some 1 := by kernel_rfl
@[simp] theorem tbytes49 : tbytes Try.prog 49 = some 8 := by kernel_rfl
@[simp] theorem tzero49 : tzero Try.prog 49 = some (.sc (.nilFunc)) := by kernel_rfl
attribute [simp] Try.underlying50
@[simp] theorem tagg50 : tagg Try.prog 50 = some false := by kernel_rfl
@[simp] theorem tsize50 : tsize Try.prog 50 = some 1 := by kernel_rfl
@[simp] theorem tbytes50 : tbytes Try.prog 50 = some 8 := by kernel_rfl
@[simp] theorem tzero50 : tzero Try.prog 50 = some (.sc (.nilFunc)) := by kernel_rfl
attribute [simp] Try.underlying51
@[simp] theorem tagg51 : tagg Try.prog 51 = some false := by kernel_rfl
@[simp] theorem tsize51 : tsize Try.prog 51 = some 1 := by kernel_rfl
@[simp] theorem tbytes51 : tbytes Try.prog 51 = some 8 := by kernel_rfl
@[simp] theorem tzero51 : tzero Try.prog 51 = some (.sc (.map Option.none)) := by kernel_rfl
@[simp] theorem tmap51 : tmap Try.prog 51 = some (9, 3) := by kernel_rfl
attribute [simp] Try.underlying52
@[simp] theorem tagg52 : tagg Try.prog 52 = some false := by kernel_rfl
@[simp] theorem tsize52 : tsize Try.prog 52 = some 1 := by kernel_rfl
@[simp] theorem tbytes52 : tbytes Try.prog 52 = some 24 := by kernel_rfl
@[simp] theorem tzero52 : tzero Try.prog 52 = some (.emp 0) := by kernel_rfl
@[simp] theorem telem52 : telem Try.prog 52 = some 75 := by kernel_rfl
attribute [simp] Try.underlying53
@[simp] theorem tagg53 : tagg Try.prog 53 = some false := by kernel_rfl
@[simp] theorem tsize53 : tsize Try.prog 53 = some 1 := by kernel_rfl
@[simp] theorem tbytes53 : tbytes Try.prog 53 = some 24 := by kernel_rfl
@[simp] theorem tzero53 : tzero Try.prog 53 = some (.emp 0) := by kernel_rfl
@[simp] theorem telem53 : telem Try.prog 53 = some 9 := by kernel_rfl
attribute [simp] Try.underlying54
@[simp] theorem tagg54 : tagg Try.prog 54 = some true := by kernel_rfl
@[simp] theorem tsize54 : tsize Try.prog 54 = some 4 := by kernel_rfl
@[simp] theorem tbytes54 : tbytes Try.prog 54 = some 64 := by kernel_rfl
@[simp] theorem tzero54 : tzero Try.prog 54 = some (.agg [.sc (.int .i64 0), .emp 0, .emp 0, .sc (.map Option.none)]) := by kernel_rfl
@[simp] theorem fieldAddr54_0 {id off : Nat} : afieldAddr Try.prog 54 (.ptr id off) 0 = some (.ptr id (off + 0)) := by simp [afieldAddr, tfield]
@[simp] theorem fieldAddr54_0c {x : AV} {off : Nat} : afieldAddr Try.prog 54 (.cptr x off) 0 = some (.cptr x (off + 0)) := by simp [afieldAddr, tfield]
@[simp] theorem fieldAddr54_1 {id off : Nat} : afieldAddr Try.prog 54 (.ptr id off) 1 = some (.ptr id (off + 1)) := by simp [afieldAddr, tfield]
@[simp] theorem fieldAddr54_1c {x : AV} {off : Nat} : afieldAddr Try.prog 54 (.cptr x off) 1 = some (.cptr x (off + 1)) := by simp [afieldAddr, tfield]
@[simp] theorem fieldAddr54_2 {id off : Nat} : afieldAddr Try.prog 54 (.ptr id off) 2 = some (.ptr id (off + 2)) := by simp [afieldAddr, tfield]
@[simp] theorem fieldAddr54_2c {x : AV} {off : Nat} : afieldAddr Try.prog 54 (.cptr x off) 2 = some (.cptr x (off + 2)) := by simp [afieldAddr, tfield]
@[simp] theorem fieldAddr54_3 {id off : Nat} : afieldAddr Try.prog 54 (.ptr id off) 3 = some (.ptr id (off + 3)) := by simp [afieldAddr, tfield]
@[simp] theorem fieldAddr54_3c {x : AV} {off : Nat} : afieldAddr Try.prog 54 (.cptr x off) 3 = some (.cptr x (off + 3)) := by simp [afieldAddr, tfield]
attribute [simp] Try.underlying55
@[simp] theorem tagg55 : tagg Try.prog 55 = some true := by kernel_rfl
@[simp] theorem tsize55 : tsize Try.prog 55 = some 4 := by kernel_rfl
@[simp] theorem tbytes55 : tbytes Try.prog 55 = some 64 := by kernel_rfl
@[simp] theorem tzero55 : tzero Try.prog 55 = some (.agg [.sc (.int .i64 0), .emp 0, .emp 0, .sc (.map Option.none)]) := by kernel_rfl
@[simp] theorem fieldAddr55_0 {id off : Nat} : afieldAddr Try.prog 55 (.ptr id off) 0 = some (.ptr id (off + 0)) := by simp [afieldAddr, tfield]
@[simp] theorem fieldAddr55_0c {x : AV} {off : Nat} : afieldAddr Try.prog 55 (.cptr x off) 0 = some (.cptr x (off + 0)) := by simp [afieldAddr, tfield]
@[simp] theorem fieldAddr55_1 {id off : Nat} : afieldAddr Try.prog 55 (.ptr id off) 1 = some (.ptr id (off + 1)) := by simp [afieldAddr, tfield]
@[simp] theorem fieldAddr55_1c {x : AV} {off : Nat} : afieldAddr Try.prog 55 (.cptr x off) 1 = some (.cptr x (off + 1)) := by simp [afieldAddr, tfield]
@[simp] theorem fieldAddr55_2 {id off : Nat} : afieldAddr Try.prog 55 (.ptr id off) 2 = some (.ptr id (off + 2)) := by simp [afieldAddr, tfield]
@[simp] theorem fieldAddr55_2c {x : AV} {off : Nat} : afieldAddr Try.prog 55 (.cptr x off) 2 = some (.cptr x (off + 2)) := by simp [afieldAddr, tfield]
@[simp] theorem fieldAddr55_3 {id off : Nat} : afieldAddr Try.prog 55 (.ptr id off) 3 = some (.ptr id (off + 3)) := by simp [afieldAddr, tfield]
@[simp] theorem fieldAddr55_3c {x : AV} {off : Nat} : afieldAddr Try.prog 55 (.cptr x off) 3 = some (.cptr x (off + 3)) := by simp [afieldAddr, tfield]
attribute [simp] Try.underlying56
@[simp] theorem tagg56 : tagg Try.prog 56 = some true := by kernel_rfl
@[simp] theorem tsize56 : tsize Try.prog 56 = some 3 := by kernel_rfl
@[simp] theorem tbytes56 : tbytes Try.prog 56 = some 32 := by kernel_rfl
@[simp] theorem tzero56 : tzero Try.prog 56 = some (.agg [.sc (.string ⟨⟨[]⟩⟩), .sc (.int .i64 0), .sc (.int .i64 0)]) := by kernel_rfl
@[simp] theorem fieldAddr56_0 {id off : Nat} : afieldAddr Try.prog 56 (.ptr id off) 0 = some (.ptr id (off + 0)) := by simp [afieldAddr, tfield]
@[simp] theorem fieldAddr56_0c {x : AV} {off : Nat} : afieldAddr Try.prog 56 (.cptr x off) 0 = some (.cptr x (off + 0)) := by simp [afieldAddr, tfield]
@[simp] theorem fieldAddr56_1 {id off : Nat} : afieldAddr Try.prog 56 (.ptr id off) 1 = some (.ptr id (off + 1)) := by simp [afieldAddr, tfield]
@[simp] theorem fieldAddr56_1c {x : AV} {off : Nat} : afieldAddr Try.prog 56 (.cptr x off) 1 = some (.cptr x (off + 1)) := by simp [afieldAddr, tfield]
@[simp] theorem fieldAddr56_2 {id off : Nat} : afieldAddr Try.prog 56 (.ptr id off) 2 = some (.ptr id (off + 2)) := by simp [afieldAddr, tfield]
@[simp] theorem fieldAddr56_2c {x : AV} {off : Nat} : afieldAddr Try.prog 56 (.cptr x off) 2 = some (.cptr x (off + 2)) := by simp [afieldAddr, tfield]
attribute [simp] Try.underlying57
@[simp] theorem tagg57 : tagg Try.prog 57 = some true := by kernel_rfl
@[simp] theorem tsize57 : tsize Try.prog 57 = some 3 := by kernel_rfl
@[simp] theorem tbytes57 : tbytes Try.prog 57 = some 32 := by kernel_rfl
@[simp] theorem tzero57 : tzero Try.prog 57 = some (.agg [.sc (.string ⟨⟨[]⟩⟩), .sc (.int .i64 0), .sc (.int .i64 0)]) := by kernel_rfl
@[simp] theorem fieldAddr57_0 {id off : Nat} : afieldAddr Try.prog 57 (.ptr id off) 0 = some (.ptr id (off + 0)) := by simp [afieldAddr, tfield]
@[simp] theorem fieldAddr57_0c {x : AV} {off : Nat} : afieldAddr Try.prog 57 (.cptr x off) 0 = some (.cptr x (off + 0)) := by simp [afieldAddr, tfield]
@[simp] theorem fieldAddr57_1 {id off : Nat} : afieldAddr Try.prog 57 (.ptr id off) 1 = some (.ptr id (off + 1)) := by simp [afieldAddr, tfield]
@[simp] theorem fieldAddr57_1c {x : AV} {off : Nat} : afieldAddr Try.prog 57 (.cptr x off) 1 = some (.cptr x (off + 1)) := by simp [afieldAddr, tfield]
@[simp] theorem fieldAddr57_2 {id off : Nat} : afieldAddr Try.prog 57 (.ptr id off) 2 = some (.ptr id (off + 2)) := by simp [afieldAddr, tfield]
@[simp] theorem fieldAddr57_2c {x : AV} {off : Nat} : afieldAddr Try.prog 57 (.cptr x off) 2 = some (.cptr x (off + 2)) := by simp [afieldAddr, tfield]
attribute [simp] Try.underlying59
@[simp] theorem tagg59 : tagg Try.prog 59 = some false := by kernel_rfl
@[simp] theorem tsize59 : tsize Try.prog 59 = some 1 := by kernel_rfl
@[simp] theorem tbytes59 : tbytes Try.prog 59 = some 8 := by kernel_rfl
@[simp] theorem tzero59 : tzero Try.prog 59 = some (.sc (.nilFunc)) := by kernel_rfl
attribute [simp] Try.underlying60
@[simp] theorem tagg60 : tagg Try.prog 60 = some false := by kernel_rfl
@[simp] theorem tsize60 : tsize Try.prog 60 = some 1 := by kernel_rfl
@[simp] theorem tbytes60 : tbytes Try.prog 60 = some 8 := by kernel_rfl
@[simp] theorem tzero60 : tzero Try.prog 60 = some (.sc (.nilFunc)) := by kernel_rfl
attribute [simp] Try.underlying61
@[simp] theorem tagg61 : tagg Try.prog 61 = some false := by kernel_rfl
@[simp] theorem tsize61 : tsize Try.prog 61 = some 1 := by kernel_rfl
@[simp] theorem tbytes61 : tbytes Try.prog 61 = some 8 := by kernel_rfl
@[simp] theorem tzero61 : tzero Try.prog 61 = some (.sc (.pointer Option.none)) := by kernel_rfl
attribute [simp] Try.underlying62
@[simp] theorem tagg62 : tagg Try.prog 62 = some true := by kernel_rfl
@[simp] theorem tsize62 : tsize Try.prog 62 = some 4 := by kernel_rfl
@[simp] theorem tbytes62 : tbytes Try.prog 62 = some 48 := by kernel_rfl
@[simp] theorem tzero62 : tzero Try.prog 62 = some (.agg [.sc (.pointer Option.none), .sc (.int .i64 0), .emp 0, .sc (.int .i64 0)]) := by kernel_rfl
@[simp] theorem fieldAddr62_0 {id off : Nat} : afieldAddr Try.prog 62 (.ptr id off) 0 = some (.ptr id (off + 0)) := by simp [afieldAddr, tfield]
@[simp] theorem fieldAddr62_0c {x : AV} {off : Nat} : afieldAddr Try.prog 62 (.cptr x off) 0 = some (.cptr x (off + 0)) := by simp [afieldAddr, tfield]
@[simp] theorem fieldAddr62_1 {id off : Nat} : afieldAddr Try.prog 62 (.ptr id off) 1 = some (.ptr id (off + 1)) := by simp [afieldAddr, tfield]
@[simp] theorem fieldAddr62_1c {x : AV} {off : Nat} : afieldAddr Try.prog 62 (.cptr x off) 1 = some (.cptr x (off + 1)) := by simp [afieldAddr, tfield]
@[simp] theorem fieldAddr62_2 {id off : Nat} : afieldAddr Try.prog 62 (.ptr id off) 2 = some (.ptr id (off + 2)) := by simp [afieldAddr, tfield]
@[simp] theorem fieldAddr62_2c {x : AV} {off : Nat} : afieldAddr Try.prog 62 (.cptr x off) 2 = some (.cptr x (off + 2)) := by simp [afieldAddr, tfield]
@[simp] theorem fieldAddr62_3 {id off : Nat} : afieldAddr Try.prog 62 (.ptr id off) 3 = some (.ptr id (off + 3)) := by simp [afieldAddr, tfield]
@[simp] theorem fieldAddr62_3c {x : AV} {off : Nat} : afieldAddr Try.prog 62 (.cptr x off) 3 = some (.cptr x (off + 3)) := by simp [afieldAddr, tfield]
attribute [simp] Try.underlying63
@[simp] theorem tagg63 : tagg Try.prog 63 = some true := by kernel_rfl
@[simp] theorem tsize63 : tsize Try.prog 63 = some 4 := by kernel_rfl
@[simp] theorem tbytes63 : tbytes Try.prog 63 = some 48 := by kernel_rfl
@[simp] theorem tzero63 : tzero Try.prog 63 = some (.agg [.sc (.pointer Option.none), .sc (.int .i64 0), .emp 0, .sc (.int .i64 0)]) := by kernel_rfl
@[simp] theorem fieldAddr63_0 {id off : Nat} : afieldAddr Try.prog 63 (.ptr id off) 0 = some (.ptr id (off + 0)) := by simp [afieldAddr, tfield]
@[simp] theorem fieldAddr63_0c {x : AV} {off : Nat} : afieldAddr Try.prog 63 (.cptr x off) 0 = some (.cptr x (off + 0)) := by simp [afieldAddr, tfield]
@[simp] theorem fieldAddr63_1 {id off : Nat} : afieldAddr Try.prog 63 (.ptr id off) 1 = some (.ptr id (off + 1)) := by simp [afieldAddr, tfield]
@[simp] theorem fieldAddr63_1c {x : AV} {off : Nat} : afieldAddr Try.prog 63 (.cptr x off) 1 = some (.cptr x (off + 1)) := by simp [afieldAddr, tfield]
@[simp] theorem fieldAddr63_2 {id off : Nat} : afieldAddr Try.prog 63 (.ptr id off) 2 = some (.ptr id (off + 2)) := by simp [afieldAddr, tfield]
@[simp] theorem fieldAddr63_2c {x : AV} {off : Nat} : afieldAddr Try.prog 63 (.cptr x off) 2 = some (.cptr x (off + 2)) := by simp [afieldAddr, tfield]
@[simp] theorem fieldAddr63_3 {id off : Nat} : afieldAddr Try.prog 63 (.ptr id off) 3 = some (.ptr id (off + 3)) := by simp [afieldAddr, tfield]
@[simp] theorem fieldAddr63_3c {x : AV} {off : Nat} : afieldAddr Try.prog 63 (.cptr x off) 3 = some (.cptr x (off + 3)) := by simp [afieldAddr, tfield]
attribute [simp] Try.underlying64
@[simp] theorem tagg64 : tagg Try.prog 64 = some false := by kernel_rfl
@[simp] theorem tsize64 : tsize Try.prog 64 = some 1 := by kernel_rfl
@[simp] theorem tbytes64 : tbytes Try.prog 64 = some 8 := by kernel_rfl
@[simp] theorem tzero64 : tzero Try.prog 64 = some (.sc (.nilFunc)) := by kernel_rfl
attribute [simp] Try.underlying65
@[simp] theorem tagg65 : tagg Try.prog 65 = some false := by kernel_rfl
@[simp] theorem tsize65 : tsize Try.prog 65 = some 1 := by kernel_rfl
@[simp] theorem tbytes65 : tbytes Try.prog 65 = some 8 := by kernel_rfl
@[simp] theorem tzero65 : tzero Try.prog 65 = some (.sc (.nilFunc)) := by kernel_rfl
attribute [simp] Try.underlying66
@[simp] theorem tagg66 : tagg Try.prog 66 = some false := by kernel_rfl
@[simp] theorem tsize66 : tsize Try.prog 66 = some 1 := by kernel_rfl
@[simp] theorem tbytes66 : tbytes Try.prog 66 = some 8 := by kernel_rfl
@[simp] theorem tzero66 : tzero Try.prog 66 = some (.sc (.nilFunc)) := by kernel_rfl
attribute [simp] Try.underlying67
@[simp] theorem tagg67 : tagg Try.prog 67 = some false := by kernel_rfl
@[simp] theorem tsize67 : tsize Try.prog 67 = some 1 := by kernel_rfl
@[simp] theorem tbytes67 : tbytes Try.prog 67 = some 8 := by kernel_rfl
@[simp] theorem tzero67 : tzero Try.prog 67 = some (.sc (.nilFunc)) := by kernel_rfl
attribute [simp] Try.underlying68
@[simp] theorem tagg68 : tagg Try.prog 68 = some false := by kernel_rfl
@[simp] theorem tsize68 : tsize Try.prog 68 = some 1 := by kernel_rfl
@[simp] theorem tbytes68 : tbytes Try.prog 68 = some 8 := by kernel_rfl
@[simp] theorem tzero68 : tzero Try.prog 68 = some (.sc (.nilFunc)) := by kernel_rfl
attribute [simp] Try.underlying69
@[simp] theorem tagg69 : tagg Try.prog 69 = some true := by kernel_rfl
@[simp] theorem tsize69 : tsize Try.prog 69 = some 255 := by kernel_rfl
@[simp] theorem tbytes69 : tbytes Try.prog 69 = some 2720 := by kernel_rfl
@[simp] theorem tarr69 : tarr Try.prog 69 = some (85, 57) := by kernel_rfl
attribute [simp] Try.underlying70
@[simp] theorem tagg70 : tagg Try.prog 70 = some false := by kernel_rfl
@[simp] theorem tsize70 : tsize Try.prog 70 = some 1 := by kernel_rfl
@[simp] theorem tbytes70 : tbytes Try.prog 70 = some 8 := by kernel_rfl
@[simp] theorem tzero70 : tzero Try.prog 70 = some (.sc (.nilFunc)) := by kernel_rfl
attribute [simp] Try.underlying71
@[simp] theorem tagg71 : tagg Try.prog 71 = some false := by kernel_rfl
@[simp] theorem tsize71 : tsize Try.prog 71 = some 1 := by kernel_rfl
@[simp] theorem tbytes71 : tbytes Try.prog 71 = some 8 := by kernel_rfl
@[simp] theorem tzero71 : tzero Try.prog 71 = some (.sc (.nilFunc)) := by kernel_rfl
attribute [simp] Try.underlying72
@[simp] theorem tagg72 : tagg Try.prog 72 = some false := by kernel_rfl
@[simp] theorem tsize72 : tsize Try.prog 72 = some 1 := by kernel_rfl
@[simp] theorem tbytes72 : tbytes Try.prog 72 = some 8 := by kernel_rfl
@[simp] theorem tzero72 : tzero Try.prog 72 = some (.sc (.nilFunc)) := by kernel_rfl
attribute [simp] Try.underlying73
@[simp] theorem tagg73 : tagg Try.prog 73 = some false := by kernel_rfl
@[simp] theorem tsize73 : tsize Try.prog 73 = some 1 := by kernel_rfl
@[simp] theorem tbytes73 : tbytes Try.prog 73 = some 24 := by kernel_rfl
@[simp] theorem tzero73 : tzero Try.prog 73 = some (.emp 0) := by kernel_rfl
@[simp] theorem telem73 : telem Try.prog 73 = some 5 := by kernel_rfl
attribute [simp] Try.underlying74
@[simp] theorem tagg74 : tagg Try.prog 74 = some true := by kernel_rfl
@[simp] theorem tsize74 : tsize Try.prog 74 = some 4 := by kernel_rfl
@[simp] theorem tbytes74 : tbytes Try.prog 74 = some 64 := by kernel_rfl
@[simp] theorem tzero74 : tzero Try.prog 74 = some (.agg [.sc (.int .i64 0), .sc (.int .i64 0), .emp 0, .emp 0]) := by kernel_rfl
@[simp] theorem fieldAddr74_0 {id off : Nat} : afieldAddr Try.prog 74 (.ptr id off) 0 = some (.ptr id (off + 0)) := by simp [afieldAddr, tfield]
@[simp] theorem fieldAddr74_0c {x : AV} {off : Nat} : afieldAddr Try.prog 74 (.cptr x off) 0 = some (.cptr x (off + 0)) := by simp [afieldAddr, tfield]
@[simp] theorem fieldAddr74_1 {id off : Nat} : afieldAddr Try.prog 74 (.ptr id off) 1 = some (.ptr id (off + 1)) := by simp [afieldAddr, tfield]
@[simp] theorem fieldAddr74_1c {x : AV} {off : Nat} : afieldAddr Try.prog 74 (.cptr x off) 1 = some (.cptr x (off + 1)) := by simp [afieldAddr, tfield]
@[simp] theorem fieldAddr74_2 {id off : Nat} : afieldAddr Try.prog 74 (.ptr id off) 2 = some (.ptr id (off + 2)) := by simp [afieldAddr, tfield]
@[simp] theorem fieldAddr74_2c {x : AV} {off : Nat} : afieldAddr Try.prog 74 (.cptr x off) 2 = some (.cptr x (off + 2)) := by simp [afieldAddr, tfield]
@[simp] theorem fieldAddr74_3 {id off : Nat} : afieldAddr Try.prog 74 (.ptr id off) 3 = some (.ptr id (off + 3)) := by simp [afieldAddr, tfield]
@[simp] theorem fieldAddr74_3c {x : AV} {off : Nat} : afieldAddr Try.prog 74 (.cptr x off) 3 = some (.cptr x (off + 3)) := by simp [afieldAddr, tfield]
attribute [simp] Try.underlying75
@[simp] theorem tagg75 : tagg Try.prog 75 = some true := by kernel_rfl
@[simp] theorem tsize75 : tsize Try.prog 75 = some 4 := by kernel_rfl
@[simp] theorem tbytes75 : tbytes Try.prog 75 = some 64 := by kernel_rfl
@[simp] theorem tzero75 : tzero Try.prog 75 = some (.agg [.sc (.int .i64 0), .sc (.int .i64 0), .emp 0, .emp 0]) := by kernel_rfl
@[simp] theorem fieldAddr75_0 {id off : Nat} : afieldAddr Try.prog 75 (.ptr id off) 0 = some (.ptr id (off + 0)) := by simp [afieldAddr, tfield]
@[simp] theorem fieldAddr75_0c {x : AV} {off : Nat} : afieldAddr Try.prog 75 (.cptr x off) 0 = some (.cptr x (off + 0)) := by simp [afieldAddr, tfield]
@[simp] theorem fieldAddr75_1 {id off : Nat} : afieldAddr Try.prog 75 (.ptr id off) 1 = some (.ptr id (off + 1)) := by simp [afieldAddr, tfield]
@[simp] theorem fieldAddr75_1c {x : AV} {off : Nat} : afieldAddr Try.prog 75 (.cptr x off) 1 = some (.cptr x (off + 1)) := by simp [afieldAddr, tfield]
@[simp] theorem fieldAddr75_2 {id off : Nat} : afieldAddr Try.prog 75 (.ptr id off) 2 = some (.ptr id (off + 2)) := by simp [afieldAddr, tfield]
@[simp] theorem fieldAddr75_2c {x : AV} {off : Nat} : afieldAddr Try.prog 75 (.cptr x off) 2 = some (.cptr x (off + 2)) := by simp [afieldAddr, tfield]
@[simp] theorem fieldAddr75_3 {id off : Nat} : afieldAddr Try.prog 75 (.ptr id off) 3 = some (.ptr id (off + 3)) := by simp [afieldAddr, tfield]
@[simp] theorem fieldAddr75_3c {x : AV} {off : Nat} : afieldAddr Try.prog 75 (.cptr x off) 3 = some (.cptr x (off + 3)) := by simp [afieldAddr, tfield]
attribute [simp] Try.underlying76
@[simp] theorem tagg76 : tagg Try.prog 76 = some false := by kernel_rfl
@[simp] theorem tsize76 : tsize Try.prog 76 = some 1 := by kernel_rfl
@[simp] theorem tbytes76 : tbytes Try.prog 76 = some 8 := by kernel_rfl
@[simp] theorem tzero76 : tzero Try.prog 76 = some (.sc (.nilFunc)) := by kernel_rfl
attribute [simp] Try.underlying77
@[simp] theorem tagg77 : tagg Try.prog 77 = some false := by kernel_rfl
@[simp] theorem tsize77 : tsize Try.prog 77 = some 1 := by kernel_rfl
@[simp] theorem tbytes77 : tbytes Try.prog 77 = some 8 := by kernel_rfl
@[simp] theorem tzero77 : tzero Try.prog 77 = some (.sc (.nilFunc)) := by kernel_rfl
attribute [simp] Try.underlying78
@[simp] theorem tagg78 : tagg Try.prog 78 = some false := by kernel_rfl
@[simp] theorem tsize78 : tsize Try.prog 78 = some 1 := by kernel_rfl
@[simp] theorem tbytes78 : tbytes Try.prog 78 = some 8 := by kernel_rfl
@[simp] theorem tzero78 : tzero Try.prog 78 = some (.sc (.pointer Option.none)) := by kernel_rfl
attribute [simp] Try.underlying79
@[simp] theorem tagg79 : tagg Try.prog 79 = some true := by kernel_rfl
@[simp] theorem tsize79 : tsize Try.prog 79 = some 2 := by kernel_rfl
@[simp] theorem tbytes79 : tbytes Try.prog 79 = some 16 := by kernel_rfl
@[simp] theorem tzero79 : tzero Try.prog 79 = some (.agg [.sc (.pointer Option.none), .sc (.int .i64 0)]) := by kernel_rfl
@[simp] theorem fieldAddr79_0 {id off : Nat} : afieldAddr Try.prog 79 (.ptr id off) 0 = some (.ptr id (off + 0)) := by simp [afieldAddr, tfield]
@[simp] theorem fieldAddr79_0c {x : AV} {off : Nat} : afieldAddr Try.prog 79 (.cptr x off) 0 = some (.cptr x (off + 0)) := by simp [afieldAddr, tfield]
@[simp] theorem fieldAddr79_1 {id off : Nat} : afieldAddr Try.prog 79 (.ptr id off) 1 = some (.ptr id (off + 1)) := by simp [afieldAddr, tfield]
@[simp] theorem fieldAddr79_1c {x : AV} {off : Nat} : afieldAddr Try.prog 79 (.cptr x off) 1 = some (.cptr x (off + 1)) := by simp [afieldAddr, tfield]
attribute [simp] Try.underlying80
@[simp] theorem tagg80 : tagg Try.prog 80 = some true := by kernel_rfl
@[simp] theorem tsize80 : tsize Try.prog 80 = some 2 := by kernel_rfl
@[simp] theorem tbytes80 : tbytes Try.prog 80 = some 16 := by kernel_rfl
@[simp] theorem tzero80 : tzero Try.prog 80 = some (.agg [.sc (.pointer Option.none), .sc (.int .i64 0)]) := by kernel_rfl
@[simp] theorem fieldAddr80_0 {id off : Nat} : afieldAddr Try.prog 80 (.ptr id off) 0 = some (.ptr id (off + 0)) := by simp [afieldAddr, tfield]
@[simp] theorem fieldAddr80_0c {x : AV} {off : Nat} : afieldAddr Try.prog 80 (.cptr x off) 0 = some (.cptr x (off + 0)) := by simp [afieldAddr, tfield]
@[simp] theorem fieldAddr80_1 {id off : Nat} : afieldAddr Try.prog 80 (.ptr id off) 1 = some (.ptr id (off + 1)) := by simp [afieldAddr, tfield]
@[simp] theorem fieldAddr80_1c {x : AV} {off : Nat} : afieldAddr Try.prog 80 (.cptr x off) 1 = some (.cptr x (off + 1)) := by simp [afieldAddr, tfield]
attribute [simp] Try.underlying81
@[simp] theorem tagg81 : tagg Try.prog 81 = some false := by kernel_rfl
@[simp] theorem tsize81 : tsize Try.prog 81 = some 1 := by kernel_rfl
@[simp] theorem tbytes81 : tbytes Try.prog 81 = some 8 := by kernel_rfl
@[simp] theorem tzero81 : tzero Try.prog 81 = some (.sc (.nilFunc)) := by kernel_rfl
attribute [simp] Try.underlying82
@[simp] theorem tagg82 : tagg Try.prog 82 = some false := by kernel_rfl
@[simp] theorem tsize82 : tsize Try.prog 82 = some 1 := by kernel_rfl
@[simp] theorem tbytes82 : tbytes Try.prog 82 = some 8 := by kernel_rfl
@[simp] theorem tzero82 : tzero Try.prog 82 = some (.sc (.nilFunc)) := by kernel_rfl
attribute [simp] Try.underlying83
@[simp] theorem tagg83 : tagg Try.prog 83 = some false := by kernel_rfl
@[simp] theorem tsize83 : tsize Try.prog 83 = some 1 := by kernel_rfl
@[simp] theorem tbytes83 : tbytes Try.prog 83 = some 8 := by kernel_rfl
@[simp] theorem tzero83 : tzero Try.prog 83 = some (.sc (.nilFunc)) := by kernel_rfl
attribute [simp] Try.underlying84
@[simp] theorem tagg84 : tagg Try.prog 84 = some false := by kernel_rfl
@[simp] theorem tsize84 : tsize Try.prog 84 = some 1 := by kernel_rfl
@[simp] theorem tbytes84 : tbytes Try.prog 84 = some 8 := by kernel_rfl
@[simp] theorem tzero84 : tzero Try.prog 84 = some (.sc (.nilFunc)) := by kernel_rfl
attribute [simp] Try.underlying85
@[simp] theorem tagg85 : tagg Try.prog 85 = some false := by kernel_rfl
@[simp] theorem tsize85 : tsize Try.prog 85 = some 1 := by kernel_rfl
@[simp] theorem tbytes85 : tbytes Try.prog 85 = some 8 := by kernel_rfl
@[simp] theorem tzero85 : tzero Try.prog 85 = some (.sc (.nilFunc)) := by kernel_rfl
attribute [simp] Try.underlying86
@[simp] theorem tagg86 : tagg Try.prog 86 = some false := by kernel_rfl
@[simp] theorem tsize86 : tsize Try.prog 86 = some 1 := by kernel_rfl
@[simp] theorem tbytes86 : tbytes Try.prog 86 = some 8 := by kernel_rfl
@[simp] theorem tzero86 : tzero Try.prog 86 = some (.sc (.nilFunc)) := by kernel_rfl
attribute [simp] Try.underlying87
@[simp] theorem tagg87 : tagg Try.prog 87 = some false := by kernel_rfl
@[simp] theorem tsize87 : tsize Try.prog 87 = some 1 := by kernel_rfl
@[simp] theorem tbytes87 : tbytes Try.prog 87 = some 8 := by kernel_rfl
@[simp] theorem tzero87 : tzero Try.prog 87 = some (.sc (.nilFunc)) := by kernel_rfl
attribute [simp] Try.underlying88
@[simp] theorem tagg88 : tagg Try.prog 88 = some false := by kernel_rfl
@[simp] theorem tsize88 : tsize Try.prog 88 = some 1 := by kernel_rfl
@[simp] theorem tbytes88 : tbytes Try.prog 88 = some 8 := by kernel_rfl
@[simp] theorem tzero88 : tzero Try.prog 88 = some (.sc (.pointer Option.none)) := by kernel_rfl
attribute [simp] Try.underlying89
@[simp] theorem tagg89 : tagg Try.prog 89 = some false := by kernel_rfl
@[simp] theorem tsize89 : tsize Try.prog 89 = some 1 := by kernel_rfl
@[simp] theorem tbytes89 : tbytes Try.prog 89 = some 8 := by kernel_rfl
@[simp] theorem tzero89 : tzero Try.prog 89 = some (.sc (.nilFunc)) := by kernel_rfl
attribute [simp] Try.underlying90
@[simp] theorem tagg90 : tagg Try.prog 90 = some false := by kernel_rfl
@[simp] theorem tsize90 : tsize Try.prog 90 = some 1 := by kernel_rfl
@[simp] theorem tbytes90 : tbytes Try.prog 90 = some 8 := by kernel_rfl
@[simp] theorem tzero90 : tzero Try.prog 90 = some (.sc (.nilFunc)) := by kernel_rfl
attribute [simp] Try.underlying91
@[simp] theorem tagg91 : tagg Try.prog 91 = some false := by kernel_rfl
@[simp] theorem tsize91 : tsize Try.prog 91 = some 1 := by kernel_rfl
@[simp] theorem tbytes91 : tbytes Try.prog 91 = some 8 := by kernel_rfl
@[simp] theorem tzero91 : tzero Try.prog 91 = some (.sc (.nilFunc)) := by kernel_rfl
attribute [simp] Try.underlying92
@[simp] theorem tagg92 : tagg Try.prog 92 = some false := by kernel_rfl
@[simp] theorem tsize92 : tsize Try.prog 92 = some 1 := by kernel_rfl
@[simp] theorem tbytes92 : tbytes Try.prog 92 = some 8 := by kernel_rfl
@[simp] theorem tzero92 : tzero Try.prog 92 = some (.sc (.nilFunc)) := by kernel_rfl
attribute [simp] Try.underlying93
@[simp] theorem tagg93 : tagg Try.prog 93 = some false := by kernel_rfl
@[simp] theorem tsize93 : tsize Try.prog 93 = some 1 := by kernel_rfl
@[simp] theorem tbytes93 : tbytes Try.prog 93 = some 8 := by kernel_rfl
@[simp] theorem tzero93 : tzero Try.prog 93 = some (.sc (.nilFunc)) := by kernel_rfl
attribute [simp] Try.underlying94
@[simp] theorem tagg94 : tagg Try.prog 94 = some false := by kernel_rfl
@[simp] theorem tsize94 : tsize Try.prog 94 = some 1 := by kernel_rfl
@[simp] theorem tbytes94 : tbytes Try.prog 94 = some 8 := by kernel_rfl
@[simp] theorem tzero94 : tzero Try.prog 94 = some (.sc (.nilFunc)) := by kernel_rfl
attribute [simp] Try.underlying96
@[simp] theorem tagg96 : tagg Try.prog 96 = some false := by kernel_rfl
@[simp] theorem tsize96 : tsize Try.prog 96 = some 1 := by kernel_rfl
@[simp] theorem tbytes96 : tbytes Try.prog 96 = some 8 := by kernel_rfl
@[simp] theorem tzero96 : tzero Try.prog 96 = some (.sc (.nilFunc)) := by kernel_rfl
attribute [simp] Try.underlying97
@[simp] theorem tagg97 : tagg Try.prog 97 = some false := by kernel_rfl
@[simp] theorem tsize97 : tsize Try.prog 97 = some 1 := by kernel_rfl
@[simp] theorem tbytes97 : tbytes Try.prog 97 = some 8 := by kernel_rfl
@[simp] theorem tzero97 : tzero Try.prog 97 = some (.sc (.map Option.none)) := by kernel_rfl
@[simp] theorem tmap97 : tmap Try.prog 97 = some (3, 3) := by kernel_rfl
attribute [simp] Try.underlying98
@[simp] theorem tagg98 : tagg Try.prog 98 = some false := by kernel_rfl
@[simp] theorem tsize98 : tsize Try.prog 98 = some 1 := by kernel_rfl
@[simp] theorem tbytes98 : tbytes Try.prog 98 = some 8 := by kernel_rfl
@[simp] theorem tzero98 : tzero Try.prog 98 = some (.sc (.nilFunc)) := by kernel_rfl
attribute [simp] Try.underlying99
@[simp] theorem tagg99 : tagg Try.prog 99 = some false := by kernel_rfl
@[simp] theorem tsize99 : tsize Try.prog 99 = some 1 := by kernel_rfl
@[simp] theorem tbytes99 : tbytes Try.prog 99 = some 8 := by kernel_rfl
@[simp] theorem tzero99 : tzero Try.prog 99 = some (.sc (.nilFunc)) := by kernel_rfl
attribute [simp] Try.underlying100
@[simp] theorem tagg100 : tagg Try.prog 100 = some false := by kernel_rfl
@[simp] theorem tsize100 : tsize Try.prog 100 = some 1 := by kernel_rfl
@[simp] theorem tbytes100 : tbytes Try.prog 100 = some 8 := by kernel_rfl
@[simp] theorem tzero100 : tzero Try.prog 100 = some (.sc (.nilFunc)) := by kernel_rfl
attribute [simp] Try.underlying101
@[simp] theorem tagg101 : tagg Try.prog 101 = some false := by kernel_rfl
@[simp] theorem tsize101 : tsize Try.prog 101 = some 1 := by kernel_rfl
@[simp] theorem tbytes101 : tbytes Try.prog 101 = some 8 := by kernel_rfl
@[simp] theorem tzero101 : tzero Try.prog 101 = some (.sc (.nilFunc)) := by kernel_rfl
attribute [simp] Try.underlying102
@[simp] theorem tagg102 : tagg Try.prog 102 = some false := by kernel_rfl
@[simp] theorem tsize102 : tsize Try.prog 102 = some 1 := by kernel_rfl
@[simp] theorem tbytes102 : tbytes Try.prog 102 = some 8 := by kernel_rfl
@[simp] theorem tzero102 : tzero Try.prog 102 = some (.sc (.nilFunc)) := by kernel_rfl
attribute [simp] Try.underlying103
@[simp] theorem tagg103 : tagg Try.prog 103 = some false := by kernel_rfl
@[simp] theorem tsize103 : tsize Try.prog 103 = some 1 := by kernel_rfl
@[simp] theorem tbytes103 : tbytes Try.prog 103 = some 8 := by kernel_rfl
@[simp] theorem tzero103 : tzero Try.prog 103 = some (.sc (.nilFunc)) := by kernel_rfl
attribute [simp] Try.underlying104
@[simp] theorem tagg104 : tagg Try.prog 104 = some false := by kernel_rfl
@[simp] theorem tsize104 : tsize Try.prog 104 = some 1 := by kernel_rfl
@[simp] theorem tbytes104 : tbytes Try.prog 104 = some 24 := by kernel_rfl
@[simp] theorem tzero104 : tzero Try.prog 104 = some (.emp 0) := by kernel_rfl
@[simp] theorem telem104 : telem Try.prog 104 = some 33 := by kernel_rfl
attribute [simp] Try.underlying105
@[simp] theorem tagg105 : tagg Try.prog 105 = some false := by kernel_rfl
@[simp] theorem tsize105 : tsize Try.prog 105 = some 1 := by kernel_rfl
@[simp] theorem tbytes105 : tbytes Try.prog 105 = some 8 := by kernel_rfl
@[simp] theorem tzero105 : tzero Try.prog 105 = some (.sc (.nilFunc)) := by kernel_rfl
attribute [simp] Try.underlying106
@[simp] theorem tagg106 : tagg Try.prog 106 = some false := by kernel_rfl
@[simp] theorem tsize106 : tsize Try.prog 106 = some 1 := by kernel_rfl
@[simp] theorem tbytes106 : tbytes Try.prog 106 = some 8 := by kernel_rfl
@[simp] theorem tzero106 : tzero Try.prog 106 = some (.sc (.nilFunc)) := by kernel_rfl
attribute [simp] Try.underlying107
@[simp] theorem tagg107 : tagg Try.prog 107 = some false := by kernel_rfl
@[simp] theorem tsize107 : tsize Try.prog 107 = some 1 := by kernel_rfl
@[simp] theorem tbytes107 : tbytes Try.prog 107 = some 8 := by kernel_rfl
@[simp] theorem tzero107 : tzero Try.prog 107 = some (.sc (.nilFunc)) := by kernel_rfl
attribute [simp] Try.underlying108
@[simp] theorem tagg108 : tagg Try.prog 108 = some false := by kernel_rfl
@[simp] theorem tsize108 : tsize Try.prog 108 = some 1 := by kernel_rfl
@[simp] theorem tbytes108 : tbytes Try.prog 108 = some 8 := by kernel_rfl
@[simp] theorem tzero108 : tzero Try.prog 108 = some (.sc (.nilFunc)) := by kernel_rfl
attribute [simp] Try.underlying109
@[simp] theorem tagg109 : tagg Try.prog 109 = some false := by kernel_rfl
@[simp] theorem tsize109 : tsize Try.prog 109 = some 1 := by kernel_rfl
@[simp] theorem tbytes109 : tbytes Try.prog 109 = some 8 := by kernel_rfl
@[simp] theorem tzero109 : tzero Try.prog 109 = some (.sc (.nilFunc)) := by kernel_rfl
attribute [simp] Try.underlying110
@[simp] theorem tagg110 : tagg Try.prog 110 = some false := by kernel_rfl
@[simp] theorem tsize110 : tsize Try.prog 110 = some 1 := by kernel_rfl
@[simp] theorem tbytes110 : tbytes Try.prog 110 = some 8 := by kernel_rfl
@[simp] theorem tzero110 : tzero Try.prog 110 = some (.sc (.nilFunc)) := by kernel_rfl
attribute [simp] Try.underlying111
@[simp] theorem tagg111 : tagg Try.prog 111 = some false := by kernel_rfl
@[simp] theorem tsize111 : tsize Try.prog 111 = some 1 := by kernel_rfl
@[simp] theorem tbytes111 : tbytes Try.prog 111 = some 8 := by kernel_rfl
@[simp] theorem tzero111 : tzero Try.prog 111 = some (.sc (.nilFunc)) := by kernel_rfl
attribute [simp] Try.underlying112
@[simp] theorem tagg112 : tagg Try.prog 112 = some false := by kernel_rfl
@[simp] theorem tsize112 : tsize Try.prog 112 = some 1 := by kernel_rfl
@[simp] theorem tbytes112 : tbytes Try.prog 112 = some 8 := by kernel_rfl
@[simp] theorem tzero112 : tzero Try.prog 112 = some (.sc (.nilFunc)) := by kernel_rfl
attribute [simp] Try.underlying114
@[simp] theorem tagg114 : tagg Try.prog 114 = some false := by kernel_rfl
@[simp] theorem tsize114 : tsize Try.prog 114 = some 1 := by kernel_rfl
@[simp] theorem tbytes114 : tbytes Try.prog 114 = some 8 := by kernel_rfl
@[simp] theorem tzero114 : tzero Try.prog 114 = some (.sc (.nilFunc)) := by kernel_rfl
attribute [simp] Try.underlying115
@[simp] theorem tagg115 : tagg Try.prog 115 = some false := by kernel_rfl
@[simp] theorem tsize115 : tsize Try.prog 115 = some 1 := by kernel_rfl
@[simp] theorem tbytes115 : tbytes Try.prog 115 = some 8 := by kernel_rfl
@[simp] theorem tzero115 : tzero Try.prog 115 = some (.sc (.nilFunc)) := by kernel_rfl
attribute [simp] Try.underlying117
@[simp] theorem tagg117 : tagg Try.prog 117 = some false := by kernel_rfl
@[simp] theorem tsize117 : tsize Try.prog 117 = some 1 := by kernel_rfl
@[simp] theorem tbytes117 : tbytes Try.prog 117 = some 8 := by kernel_rfl
@[simp] theorem tzero117 : tzero Try.prog 117 = some (.sc (.nilFunc)) := by kernel_rfl
attribute [simp] Try.underlying118
@[simp] theorem tagg118 : tagg Try.prog 118 = some false := by kernel_rfl
@[simp] theorem tsize118 : tsize Try.prog 118 = some 1 := by kernel_rfl
@[simp] theorem tbytes118 : tbytes Try.prog 118 = some 8 := by kernel_rfl
@[simp] theorem tzero118 : tzero Try.prog 118 = some (.sc (.nilFunc)) := by kernel_rfl
attribute [simp] Try.underlying119
@[simp] theorem tagg119 : tagg Try.prog 119 = some false := by kernel_rfl
@[simp] theorem tsize119 : tsize Try.prog 119 = some 1 := by kernel_rfl
@[simp] theorem tbytes119 : tbytes Try.prog 119 = some 8 := by kernel_rfl
@[simp] theorem tzero119 : tzero Try.prog 119 = some (.sc (.int .u64 0)) := by kernel_rfl
attribute [simp] Try.underlying121
@[simp] theorem tagg121 : tagg Try.prog 121 = some false := by kernel_rfl
@[simp] theorem tsize121 : tsize Try.prog 121 = some 1 := by kernel_rfl
@[simp] theorem tbytes121 : tbytes Try.prog 121 = some 8 := by kernel_rfl
@[simp] theorem tzero121 : tzero Try.prog 121 = some (.sc (.nilFunc)) := by kernel_rfl
attribute [simp] Try.underlying122
@[simp] theorem tagg122 : tagg Try.prog 122 = some false := by kernel_rfl
@[simp] theorem tsize122 : tsize Try.prog 122 = some 1 := by kernel_rfl
@[simp] theorem tbytes122 : tbytes Try.prog 122 = some 8 := by kernel_rfl
@[simp] theorem tzero122 : tzero Try.prog 122 = some (.sc (.nilFunc)) := by kernel_rfl
attribute [simp] Try.underlying123
@[simp] theorem tagg123 : tagg Try.prog 123 = some false := by kernel_rfl
@[simp] theorem tsize123 : tsize Try.prog 123 = some 1 := by kernel_rfl
@[simp] theorem tbytes123 : tbytes Try.prog 123 = some 8 := by kernel_rfl
@[simp] theorem tzero123 : tzero Try.prog 123 = some (.sc (.nilFunc)) := by kernel_rfl
attribute [simp] Try.underlying124
@[simp] theorem tagg124 : tagg Try.prog 124 = some false := by kernel_rfl
@[simp] theorem tsize124 : tsize Try.prog 124 = some 1 := by kernel_rfl
@[simp] theorem tbytes124 : tbytes Try.prog 124 = some 8 := by kernel_rfl
@[simp] theorem tzero124 : tzero Try.prog 124 = some (.sc (.nilFunc)) := by kernel_rfl
attribute [simp] Try.underlying126
@[simp] theorem tagg126 : tagg Try.prog 126 = some false := by kernel_rfl
@[simp] theorem tsize126 : tsize Try.prog 126 = some 1 := by kernel_rfl
@[simp] theorem tbytes126 : tbytes Try.prog 126 = some 8 := by kernel_rfl
@[simp] theorem tzero126 : tzero Try.prog 126 = some (.sc (.nilFunc)) := by kernel_rfl
attribute [simp] Try.underlying127
@[simp] theorem tagg127 : tagg Try.prog 127 = some false := by kernel_rfl
@[simp] theorem tsize127 : tsize Try.prog 127 = some 1 := by kernel_rfl
@[simp] theorem tbytes127 : tbytes Try.prog 127 = some 8 := by kernel_rfl
@[simp] theorem tzero127 : tzero Try.prog 127 = some (.sc (.nilFunc)) := by kernel_rfl
attribute [simp] Try.underlying128
@[simp] theorem tagg128 : tagg Try.prog 128 = some false := by kernel_rfl
@[simp] theorem tsize128 : tsize Try.prog 128 = some 1 := by kernel_rfl
@[simp] theorem tbytes128 : tbytes Try.prog 128 = some 8 := by kernel_rfl
@[simp] theorem tzero128 : tzero Try.prog 128 = some (.sc (.nilFunc)) := by kernel_rfl
attribute [simp] Try.underlying129
@[simp] theorem tagg129 : tagg Try.prog 129 = some false := by kernel_rfl
@[simp] theorem tsize129 : tsize Try.prog 129 = some 1 := by kernel_rfl
@[simp] theorem tbytes129 : tbytes Try.prog 129 = some 8 := by kernel_rfl
@[simp] theorem tzero129 : tzero Try.prog 129 = some (.sc (.nilFunc)) := by kernel_rfl
attribute [simp] Try.underlying130
@[simp] theorem tagg130 : tagg Try.prog 130 = some false := by kernel_rfl
@[simp] theorem tsize130 : tsize Try.prog 130 = some 1 := by kernel_rfl
@[simp] theorem tbytes130 : tbytes Try.prog 130 = some 8 := by kernel_rfl
@[simp] theorem tzero130 : tzero Try.prog 130 = some (.sc (.nilFunc)) := by kernel_rfl
attribute [simp] Try.underlying131
@[simp] theorem tagg131 : tagg Try.prog 131 = some false := by kernel_rfl
@[simp] theorem tsize131 : tsize Try.prog 131 = some 1 := by kernel_rfl
@[simp] theorem tbytes131 : tbytes Try.prog 131 = some 8 := by kernel_rfl
@[simp] theorem tzero131 : tzero Try.prog 131 = some (.sc (.int .u64 0)) := by kernel_rfl
attribute [simp] Try.underlying133
@[simp] theorem tagg133 : tagg Try.prog 133 = some false := by kernel_rfl
@[simp] theorem tsize133 : tsize Try.prog 133 = some 1 := by kernel_rfl
@[simp] theorem tbytes133 : tbytes Try.prog 133 = some 8 := by kernel_rfl
@[simp] theorem tzero133 : tzero Try.prog 133 = some (.sc (.nilFunc)) := by kernel_rfl
attribute [simp] Try.underlying134
@[simp] theorem tagg134 : tagg Try.prog 134 = some false := by kernel_rfl
@[simp] theorem tsize134 : tsize Try.prog 134 = some 1 := by kernel_rfl
@[simp] theorem tbytes134 : tbytes Try.prog 134 = some 8 := by kernel_rfl
@[simp] theorem tzero134 : tzero Try.prog 134 = some (.sc (.nilFunc)) := by kernel_rfl
attribute [simp] Try.underlying135
@[simp] theorem tagg135 : tagg Try.prog 135 = some true := by kernel_rfl
@[simp] theorem tsize135 : tsize Try.prog 135 = some 20 := by kernel_rfl
@[simp] theorem tbytes135 : tbytes Try.prog 135 = some 20 := by kernel_rfl
@[simp] theorem tzero135 : tzero Try.prog 135 = some (.agg [.sc (.int .u8 0), .sc (.int .u8 0), .sc (.int .u8 0), .sc (.int .u8 0), .sc (.int .u8 0), .sc (.int .u8 0), .sc (.int .u8 0), .sc (.int .u8 0), .sc (.int .u8 0), .sc (.int .u8 0), .sc (.int .u8 0), .sc (.int .u8 0), .sc (.int .u8 0), .sc (.int .u8 0), .sc (.int .u8 0), .sc (.int .u8 0), .sc (.int .u8 0), .sc (.int .u8 0), .sc (.int .u8 0), .sc (.int .u8 0)]) := by kernel_rfl
@[simp] theorem tarr135 : tarr Try.prog 135 = some (20, 5) := by kernel_rfl
attribute [simp] Try.underlying136
@[simp] theorem tagg136 : tagg Try.prog 136 = some false := by kernel_rfl
@[simp] theorem tsize136 : tsize Try.prog 136 = some 1 := by kernel_rfl
@[simp] theorem tbytes136 : tbytes Try.prog 136 = some 8 := by kernel_rfl
@[simp] theorem tzero136 : tzero Try.prog 136 = some (.sc (.nilFunc)) := by kernel_rfl
attribute [simp] Try.underlying137
@[simp] theorem tagg137 : tagg Try.prog 137 = some false := by kernel_rfl
@[simp] theorem tsize137 : tsize Try.prog 137 = some 1 := by kernel_rfl
@[simp] theorem tbytes137 : tbytes Try.prog 137 = some 8 := by kernel_rfl
@[simp] theorem tzero137 : tzero Try.prog 137 = some (.sc (.nilFunc)) := by kernel_rfl
attribute [simp] Try.underlying138
@[simp] theorem tagg138 : tagg Try.prog 138 = some false := by kernel_rfl
@[simp] theorem tsize138 : tsize Try.prog 138 = some 1 := by kernel_rfl
@[simp] theorem tbytes138 : tbytes Try.prog 138 = some 4 := by kernel_rfl
@[simp] theorem tzero138 : tzero Try.prog 138 = some (.sc (.int .u32 0)) := by kernel_rfl
attribute [simp] Try.underlying140
@[simp] theorem tagg140 : tagg Try.prog 140 = some false := by kernel_rfl
@[simp] theorem tsize140 : tsize Try.prog 140 = some 1 := by kernel_rfl
@[simp] theorem tbytes140 : tbytes Try.prog 140 = some 8 := by kernel_rfl
@[simp] theorem tzero140 : tzero Try.prog 140 = some (.sc (.nilFunc)) := by kernel_rfl
attribute [simp] Try.underlying141
@[simp] theorem tagg141 : tagg Try.prog 141 = some false := by kernel_rfl
@[simp] theorem tsize141 : tsize Try.prog 141 = some 1 := by kernel_rfl
@[simp] theorem tbytes141 : tbytes Try.prog 141 = some 8 := by kernel_rfl
@[simp] theorem tzero141 : tzero Try.prog 141 = some (.sc (.nilFunc)) := by kernel_rfl
attribute [simp] Try.underlying142
@[simp] theorem tagg142 : tagg Try.prog 142 = some false := by kernel_rfl
@[simp] theorem tsize142 : tsize Try.prog 142 = some 1 := by kernel_rfl
@[simp] theorem tbytes142 : tbytes Try.prog 142 = some 8 := by kernel_rfl
@[simp] theorem tzero142 : tzero Try.prog 142 = some (.sc (.nilFunc)) := by kernel_rfl
attribute [simp] Try.underlying143
@[simp] theorem tagg143 : tagg Try.prog 143 = some false := by kernel_rfl
@[simp] theorem tsize143 : tsize Try.prog 143 = some 1 := by kernel_rfl
@[simp] theorem tbytes143 : tbytes Try.prog 143 = some 8 := by kernel_rfl
@[simp] theorem tzero143 : tzero Try.prog 143 = some (.sc (.nilFunc)) := by kernel_rfl
attribute [simp] Try.underlying144
@[simp] theorem tagg144 : tagg Try.prog 144 = some false := by kernel_rfl
@[simp] theorem tsize144 : tsize Try.prog 144 = some 1 := by kernel_rfl
@[simp] theorem tbytes144 : tbytes Try.prog 144 = some 8 := by kernel_rfl
@[simp] theorem tzero144 : tzero Try.prog 144 = some (.sc (.nilFunc)) := by kernel_rfl
attribute [simp] Try.underlying145
@[simp] theorem tagg145 : tagg Try.prog 145 = some false := by kernel_rfl
@[simp] theorem tsize145 : tsize Try.prog 145 = some 1 := by kernel_rfl
@[simp] theorem tbytes145 : tbytes Try.prog 145 = some 8 := by kernel_rfl
@[simp] theorem tzero145 : tzero Try.prog 145 = some (.sc (.nilFunc)) := by kernel_rfl
attribute [simp] Try.underlying146
@[simp] theorem tagg146 : tagg Try.prog 146 = some false := by kernel_rfl
@[simp] theorem tsize146 : tsize Try.prog 146 = some 1 := by kernel_rfl
@[simp] theorem tbytes146 : tbytes Try.prog 146 = some 8 := by kernel_rfl
@[simp] theorem tzero146 : tzero Try.prog 146 = some (.sc (.nilFunc)) := by kernel_rfl
attribute [simp] Try.underlying147
@[simp] theorem tagg147 : tagg Try.prog 147 = some false := by kernel_rfl
@[simp] theorem tsize147 : tsize Try.prog 147 = some 1 := by kernel_rfl
@[simp] theorem tbytes147 : tbytes Try.prog 147 = some 8 := by kernel_rfl
@[simp] theorem tzero147 : tzero Try.prog 147 = some (.sc (.nilFunc)) := by kernel_rfl
attribute [simp] Try.underlying148
@[simp] theorem tagg148 : tagg Try.prog 148 = some true := by kernel_rfl
@[simp] theorem tsize148 : tsize Try.prog 148 = some 4 := by kernel_rfl
@[simp] theorem tbytes148 : tbytes Try.prog 148 = some 40 := by kernel_rfl
@[simp] theorem tzero148 : tzero Try.prog 148 = some (.agg [.sc (.pointer Option.none), .sc (.pointer Option.none), .sc (.pointer Option.none), .sc (.string ⟨⟨[]⟩⟩)]) := by kernel_rfl
@[simp] theorem fieldAddr148_0 {id off : Nat} : afieldAddr Try.prog 148 (.ptr id off) 0 = some (.ptr id (off + 0)) := by simp [afieldAddr, tfield]
@[simp] theorem fieldAddr148_0c {x : AV} {off : Nat} : afieldAddr Try.prog 148 (.cptr x off) 0 = some (.cptr x (off + 0)) := by simp [afieldAddr, tfield]
@[simp] theorem fieldAddr148_1 {id off : Nat} : afieldAddr Try.prog 148 (.ptr id off) 1 = some (.ptr id (off + 1)) := by simp [afieldAddr, tfield]
@[simp] theorem fieldAddr148_1c {x : AV} {off : Nat} : afieldAddr Try.prog 148 (.cptr x off) 1 = some (.cptr x (off + 1)) := by simp [afieldAddr, tfield]
@[simp] theorem fieldAddr148_2 {id off : Nat} : afieldAddr Try.prog 148 (.ptr id off) 2 = some (.ptr id (off + 2)) := by simp [afieldAddr, tfield]
@[simp] theorem fieldAddr148_2c {x : AV} {off : Nat} : afieldAddr Try.prog 148 (.cptr x off) 2 = some (.cptr x (off + 2)) := by simp [afieldAddr, tfield]
@[simp] theorem fieldAddr148_3 {id off : Nat} : afieldAddr Try.prog 148 (.ptr id off) 3 = some (.ptr id (off + 3)) := by simp [afieldAddr, tfield]
@[simp] theorem fieldAddr148_3c {x : AV} {off : Nat} : afieldAddr Try.prog 148 (.cptr x off) 3 = some (.cptr x (off + 3)) := by simp [afieldAddr, tfield]
attribute [simp] Try.underlying149
@[simp] theorem tagg149 : tagg Try.prog 149 = some true := by kernel_rfl
@[simp] theorem tsize149 : tsize Try.prog 149 = some 4 := by kernel_rfl
@[simp] theorem tbytes149 : tbytes Try.prog 149 = some 40 := by kernel_rfl
@[simp] theorem tzero149 : tzero Try.prog 149 = some (.agg [.sc (.pointer Option.none), .sc (.pointer Option.none), .sc (.pointer Option.none), .sc (.string ⟨⟨[]⟩⟩)]) := by kernel_rfl
@[simp] theorem fieldAddr149_0 {id off : Nat} : afieldAddr Try.prog 149 (.ptr id off) 0 = some (.ptr id (off + 0)) := by simp [afieldAddr, tfield]
@[simp] theorem fieldAddr149_0c {x : AV} {off : Nat} : afieldAddr Try.prog 149 (.cptr x off) 0 = some (.cptr x (off + 0)) := by simp [afieldAddr, tfield]
@[simp] theorem fieldAddr149_1 {id off : Nat} : afieldAddr Try.prog 149 (.ptr id off) 1 = some (.ptr id (off + 1)) := by simp [afieldAddr, tfield]
@[simp] theorem fieldAddr149_1c {x : AV} {off : Nat} : afieldAddr Try.prog 149 (.cptr x off) 1 = some (.cptr x (off + 1)) := by simp [afieldAddr, tfield]
@[simp] theorem fieldAddr149_2 {id off : Nat} : afieldAddr Try.prog 149 (.ptr id off) 2 = some (.ptr id (off + 2)) := by simp [afieldAddr, tfield]
@[simp] theorem fieldAddr149_2c {x : AV} {off : Nat} : afieldAddr Try.prog 149 (.cptr x off) 2 = some (.cptr x (off + 2)) := by simp [afieldAddr, tfield]
@[simp] theorem fieldAddr149_3 {id off : Nat} : afieldAddr Try.prog 149 (.ptr id off) 3 = some (.ptr id (off + 3)) := by simp [afieldAddr, tfield]
@[simp] theorem fieldAddr149_3c {x : AV} {off : Nat} : afieldAddr Try.prog 149 (.cptr x off) 3 = some (.cptr x (off + 3)) := by simp [afieldAddr, tfield]
attribute [simp] Try.underlying150
@[simp] theorem tagg150 : tagg Try.prog 150 = some true := by kernel_rfl
@[simp] theorem tsize150 : tsize Try.prog 150 = some 0 := by kernel_rfl
@[simp] theorem tbytes150 : tbytes Try.prog 150 = some 0 := by kernel_rfl
@[simp] theorem tzero150 : tzero Try.prog 150 = some (.agg []) := by kernel_rfl
@[simp] theorem tarr150 : tarr Try.prog 150 = some (0, 16) := by kernel_rfl
attribute [simp] Try.underlying151
@[simp] theorem tagg151 : tagg Try.prog 151 = some true := by kernel_rfl
@[simp] theorem tsize151 : tsize Try.prog 151 = some 0 := by kernel_rfl
@[simp] theorem tbytes151 : tbytes Try.prog 151 = some 0 := by kernel_rfl
@[simp] theorem tzero151 : tzero Try.prog 151 = some (.agg []) := by kernel_rfl
attribute [simp] Try.underlying152
@[simp] theorem tagg152 : tagg Try.prog 152 = some true := by kernel_rfl
@[simp] theorem tsize152 : tsize Try.prog 152 = some 0 := by kernel_rfl
@[simp] theorem tbytes152 : tbytes Try.prog 152 = some 0 := by kernel_rfl
@[simp] theorem tzero152 : tzero Try.prog 152 = some (.agg []) := by kernel_rfl
attribute [simp] Try.underlying153
@[simp] theorem tagg153 : tagg Try.prog 153 = some false := by kernel_rfl
@[simp] theorem tsize153 : tsize Try.prog 153 = some 1 := by kernel_rfl
@[simp] theorem tbytes153 : tbytes Try.prog 153 = some 8 := by kernel_rfl
@[simp] theorem tzero153 : tzero Try.prog 153 = some (.sc (.nilFunc)) := by kernel_rfl
attribute [simp] Try.underlying154
@[simp] theorem tagg154 : tagg Try.prog 154 = some false := by kernel_rfl
@[simp] theorem tsize154 : tsize Try.prog 154 = some 1 := by kernel_rfl
@[simp] theorem tbytes154 : tbytes Try.prog 154 = some 1 := by kernel_rfl
@[simp] theorem tzero154 : tzero Try.prog 154 = some (.sc (.int .u8 0)) := by kernel_rfl
attribute [simp] Try.underlying155
@[simp] theorem tagg155 : tagg Try.prog 155 = some false := by kernel_rfl
@[simp] theorem tsize155 : tsize Try.prog 155 = some 1 := by kernel_rfl
@[simp] theorem tbytes155 : tbytes Try.prog 155 = some 1 := by kernel_rfl
@[simp] theorem tzero155 : tzero Try.prog 155 = some (.sc (.int .u8 0)) := by kernel_rfl
attribute [simp] Try.underlying156
@[simp] theorem tagg156 : tagg Try.prog 156 = some false := by kernel_rfl
@[simp] theorem tsize156 : tsize Try.prog 156 = some 1 := by kernel_rfl
@[simp] theorem tbytes156 : tbytes Try.prog 156 = some 8 := by kernel_rfl
@[simp] theorem tzero156 : tzero Try.prog 156 = some (.sc (.nilFunc)) := by kernel_rfl
attribute [simp] Try.underlying157
@[simp] theorem tagg157 : tagg Try.prog 157 = some false := by kernel_rfl
@[simp] theorem tsize157 : tsize Try.prog 157 = some 1 := by kernel_rfl
@[simp] theorem tbytes157 : tbytes Try.prog 157 = some 8 := by kernel_rfl
@[simp] theorem tzero157 : tzero Try.prog 157 = some (.sc (.pointer Option.none)) := by kernel_rfl
attribute [simp] Try.underlying158
@[simp] theorem tagg158 : tagg Try.prog 158 = some false := by kernel_rfl
@[simp] theorem tsize158 : tsize Try.prog 158 = some 1 := by kernel_rfl
@[simp] theorem tbytes158 : tbytes Try.prog 158 = some 4 := by kernel_rfl
@[simp] theorem tzero158 : tzero Try.prog 158 = some (.sc (.int .i32 0)) := by kernel_rfl
attribute [simp] Try.underlying159
@[simp] theorem tagg159 : tagg Try.prog 159 = some false := by kernel_rfl
@[simp] theorem tsize159 : tsize Try.prog 159 = some 1 := by kernel_rfl
@[simp] theorem tbytes159 : tbytes Try.prog 159 = some 4 := by kernel_rfl
@[simp] theorem tzero159 : tzero Try.prog 159 = some (.sc (.int .i32 0)) := by kernel_rfl
attribute [simp] Try.underlying160
@[simp] theorem tagg160 : tagg Try.prog 160 = some true := by kernel_rfl
@[simp] theorem tsize160 : tsize Try.prog 160 = some 11 := by kernel_rfl
@[simp] theorem tbytes160 : tbytes Try.prog 160 = some 48 := by kernel_rfl
@[simp] theorem tzero160 : tzero Try.prog 160 = some (.agg [.sc (.int .u64 0), .sc (.int .u64 0), .sc (.int .u32 0), .sc (.int .u8 0), .sc (.int .u8 0), .sc (.int .u8 0), .sc (.int .u8 0), .sc (.nilFunc), .sc (.pointer Option.none), .sc (.int .i32 0), .sc (.int .i32 0)]) := by kernel_rfl
@[simp] theorem fieldAddr160_0 {id off : Nat} : afieldAddr Try.prog 160 (.ptr id off) 0 = some (.ptr id (off + 0)) := by simp [afieldAddr, tfield]
@[simp] theorem fieldAddr160_0c {x : AV} {off : Nat} : afieldAddr Try.prog 160 (.cptr x off) 0 = some (.cptr x (off + 0)) := by simp [afieldAddr, tfield]
@[simp] theorem fieldAddr160_1 {id off : Nat} : afieldAddr Try.prog 160 (.ptr id off) 1 = some (.ptr id (off + 1)) := by simp [afieldAddr, tfield]
@[simp] theorem fieldAddr160_1c {x : AV} {off : Nat} : afieldAddr Try.prog 160 (.cptr x off) 1 = some (.cptr x (off + 1)) := by simp [afieldAddr, tfield]
@[simp] theorem fieldAddr160_2 {id off : Nat} : afieldAddr Try.prog 160 (.ptr id off) 2 = some (.ptr id (off + 2)) := by simp [afieldAddr, tfield]
@[simp] theorem fieldAddr160_2c {x : AV} {off : Nat} : afieldAddr Try.prog 160 (.cptr x off) 2 = some (.cptr x (off + 2)) := by simp [afieldAddr, tfield]
@[simp] theorem fieldAddr160_3 {id off : Nat} : afieldAddr Try.prog 160 (.ptr id off) 3 = some (.ptr id (off + 3)) := by simp [afieldAddr, tfield]
@[simp] theorem fieldAddr160_3c {x : AV} {off : Nat} : afieldAddr Try.prog 160 (.cptr x off) 3 = some (.cptr x (off + 3)) := by simp [afieldAddr, tfield]
@[simp] theorem fieldAddr160_4 {id off : Nat} : afieldAddr Try.prog 160 (.ptr id off) 4 = some (.ptr id (off + 4)) := by simp [afieldAddr, tfield]
@[simp] theorem fieldAddr160_4c {x : AV} {off : Nat} : afieldAddr Try.prog 160 (.cptr x off) 4 = some (.cptr x (off + 4)) := by simp [afieldAddr, tfield]
@[simp] theorem fieldAddr160_5 {id off : Nat} : afieldAddr Try.prog 160 (.ptr id off) 5 = some (.ptr id (off + 5)) := by simp [afieldAddr, tfield]
@[simp] theorem fieldAddr160_5c {x : AV} {off : Nat} : afieldAddr Try.prog 160 (.cptr x off) 5 = some (.cptr x (off + 5)) := by simp [afieldAddr, tfield]
@[simp] theorem fieldAddr160_6 {id off : Nat} : afieldAddr Try.prog 160 (.ptr id off) 6 = some (.ptr id (off + 6)) := by simp [afieldAddr, tfield]
@[simp] theorem fieldAddr160_6c {x : AV} {off : Nat} : afieldAddr Try.prog 160 (.cptr x off) 6 = some (.cptr x (off + 6)) := by simp [afieldAddr, tfield]
@[simp] theorem fieldAddr160_7 {id off : Nat} : afieldAddr Try.prog 160 (.ptr id off) 7 = some (.ptr id (off + 7)) := by simp [afieldAddr, tfield]
@[simp] theorem fieldAddr160_7c {x : AV} {off : Nat} : afieldAddr Try.prog 160 (.cptr x off) 7 = some (.cptr x (off + 7)) := by simp [afieldAddr, tfield]
@[simp] theorem fieldAddr160_8 {id off : Nat} : afieldAddr Try.prog 160 (.ptr id off) 8 = some (.ptr id (off + 8)) := by simp [afieldAddr, tfield]
@[simp] theorem fieldAddr160_8c {x : AV} {off : Nat} : afieldAddr Try.prog 160 (.cptr x off) 8 = some (.cptr x (off + 8)) := by simp [afieldAddr, tfield]
@[simp] theorem fieldAddr160_9 {id off : Nat} : afieldAddr Try.prog 160 (.ptr id off) 9 = some (.ptr id (off + 9)) := by simp [afieldAddr, tfield]
@[simp] theorem fieldAddr160_9c {x : AV} {off : Nat} : afieldAddr Try.prog 160 (.cptr x off) 9 = some (.cptr x (off + 9)) := by simp [afieldAddr, tfield]
@[simp] theorem fieldAddr160_10 {id off : Nat} : afieldAddr Try.prog 160 (.ptr id off) 10 = some (.ptr id (off + 10)) := by simp [afieldAddr, tfield]
@[simp] theorem fieldAddr160_10c {x : AV} {off : Nat} : afieldAddr Try.prog 160 (.cptr x off) 10 = some (.cptr x (off + 10)) := by simp [afieldAddr, tfield]
attribute [simp] Try.underlying161
@[simp] theorem tagg161 : tagg Try.prog 161 = some true := by kernel_rfl
@[simp] theorem tsize161 : tsize Try.prog 161 = some 11 := by kernel_rfl
@[simp] theorem tbytes161 : tbytes Try.prog 161 = some 48 := by kernel_rfl
@[simp] theorem tzero161 : tzero Try.prog 161 = some (.agg [.sc (.int .u64 0), .sc (.int .u64 0), .sc (.int .u32 0), .sc (.int .u8 0), .sc (.int .u8 0), .sc (.int .u8 0), .sc (.int .u8 0), .sc (.nilFunc), .sc (.pointer Option.none), .sc (.int .i32 0), .sc (.int .i32 0)]) := by kernel_rfl
@[simp] theorem fieldAddr161_0 {id off : Nat} : afieldAddr Try.prog 161 (.ptr id off) 0 = some (.ptr id (off + 0)) := by simp [afieldAddr, tfield]
@[simp] theorem fieldAddr161_0c {x : AV} {off : Nat} : afieldAddr Try.prog 161 (.cptr x off) 0 = some (.cptr x (off + 0)) := by simp [afieldAddr, tfield]
@[simp] theorem fieldAddr161_1 {id off : Nat} : afieldAddr Try.prog 161 (.ptr id off) 1 = some (.ptr id (off + 1)) := by simp [afieldAddr, tfield]
@[simp] theorem fieldAddr161_1c {x : AV} {off : Nat} : afieldAddr Try.prog 161 (.cptr x off) 1 = some (.cptr x (off + 1)) := by simp [afieldAddr, tfield]
@[simp] theorem fieldAddr161_2 {id off : Nat} : afieldAddr Try.prog 161 (.ptr id off) 2 = some (.ptr id (off + 2)) := by simp [afieldAddr, tfield]
@[simp] theorem fieldAddr161_2c {x : AV} {off : Nat} : afieldAddr Try.prog 161 (.cptr x off) 2 = some (.cptr x (off + 2)) := by simp [afieldAddr, tfield]
@[simp] theorem fieldAddr161_3 {id off : Nat} : afieldAddr Try.prog 161 (.ptr id off) 3 = some (.ptr id (off + 3)) := by simp [afieldAddr, tfield]
@[simp] theorem fieldAddr161_3c {x : AV} {off : Nat} : afieldAddr Try.prog 161 (.cptr x off) 3 = some (.cptr x (off + 3)) := by simp [afieldAddr, tfield]
@[simp] theorem fieldAddr161_4 {id off : Nat} : afieldAddr Try.prog 161 (.ptr id off) 4 = some (.ptr id (off + 4)) := by simp [afieldAddr, tfield]
@[simp] theorem fieldAddr161_4c {x : AV} {off : Nat} : afieldAddr Try.prog 161 (.cptr x off) 4 = some (.cptr x (off + 4)) := by simp [afieldAddr, tfield]
@[simp] theorem fieldAddr161_5 {id off : Nat} : afieldAddr Try.prog 161 (.ptr id off) 5 = some (.ptr id (off + 5)) := by simp [afieldAddr, tfield]
@[simp] theorem fieldAddr161_5c {x : AV} {off : Nat} : afieldAddr Try.prog 161 (.cptr x off) 5 = some (.cptr x (off + 5)) := by simp [afieldAddr, tfield]
@[simp] theorem fieldAddr161_6 {id off : Nat} : afieldAddr Try.prog 161 (.ptr id off) 6 = some (.ptr id (off + 6)) := by simp [afieldAddr, tfield]
@[simp] theorem fieldAddr161_6c {x : AV} {off : Nat} : afieldAddr Try.prog 161 (.cptr x off) 6 = some (.cptr x (off + 6)) := by simp [afieldAddr, tfield]
@[simp] theorem fieldAddr161_7 {id off : Nat} : afieldAddr Try.prog 161 (.ptr id off) 7 = some (.ptr id (off + 7)) := by simp [afieldAddr, tfield]
@[simp] theorem fieldAddr161_7c {x : AV} {off : Nat} : afieldAddr Try.prog 161 (.cptr x off) 7 = some (.cptr x (off + 7)) := by simp [afieldAddr, tfield]
@[simp] theorem fieldAddr161_8 {id off : Nat} : afieldAddr Try.prog 161 (.ptr id off) 8 = some (.ptr id (off + 8)) := by simp [afieldAddr, tfield]
@[simp] theorem fieldAddr161_8c {x : AV} {off : Nat} : afieldAddr Try.prog 161 (.cptr x off) 8 = some (.cptr x (off + 8)) := by simp [afieldAddr, tfield]
@[simp] theorem fieldAddr161_9 {id off : Nat} : afieldAddr Try.prog 161 (.ptr id off) 9 = some (.ptr id (off + 9)) := by simp [afieldAddr, tfield]
@[simp] theorem fieldAddr161_9c {x : AV} {off : Nat} : afieldAddr Try.prog 161 (.cptr x off) 9 = some (.cptr x (off + 9)) := by simp [afieldAddr, tfield]
@[simp] theorem fieldAddr161_10 {id off : Nat} : afieldAddr Try.prog 161 (.ptr id off) 10 = some (.ptr id (off + 10)) := by simp [afieldAddr, tfield]
@[simp] theorem fieldAddr161_10c {x : AV} {off : Nat} : afieldAddr Try.prog 161 (.cptr x off) 10 = some (.cptr x (off + 10)) := by simp [afieldAddr, tfield]
theorem el22 : ElemOf Try.prog 22 1 false := ⟨⟨2, 8, .sc (.int .i64 0), telem22, tsize2, tbytes2, tzero2, tagg2, by kernel_rfl, by decide, by kernel_rfl⟩, by decide⟩
theorem el33 : ElemOf Try.prog 33 2 true := ⟨⟨29, 16, .agg [.sc (.int .i64 0), .sc (.int .i64 0)], telem33, tsize29, tbytes29, tzero29, tagg29, by kernel_rfl, by decide, by kernel_rfl⟩, by decide⟩
theorem el34 : ElemOf Try.prog 34 1 false := ⟨⟨3, 8, .sc (.int .i64 0), telem34, tsize3, tbytes3, tzero3, tagg3, by kernel_rfl, by decide, by kernel_rfl⟩, by decide⟩
theorem el38 : ElemOf Try.prog 38 2 true := ⟨⟨44, 24, .agg [.sc (.int .i64 0), .sc (.string ⟨⟨[]⟩⟩)], telem38, tsize44, tbytes44, tzero44, tagg44, by kernel_rfl, by decide, by kernel_rfl⟩, by decide⟩
theorem el52 : ElemOf Try.prog 52 4 true := ⟨⟨75, 64, .agg [.sc (.int .i64 0), .sc (.int .i64 0), .emp 0, .emp 0], telem52, tsize75, tbytes75, tzero75, tagg75, by kernel_rfl, by decide, by kernel_rfl⟩, by decide⟩
theorem el53 : ElemOf Try.prog 53 1 false := ⟨⟨9, 16, .sc (.string ⟨⟨[]⟩⟩), telem53, tsize9, tbytes9, tzero9, tagg9, by kernel_rfl, by decide, by kernel_rfl⟩, by decide⟩
theorem el73 : ElemOf Try.prog 73 1 false := ⟨⟨5, 1, .sc (.int .u8 0), telem73, tsize5, tbytes5, tzero5, tagg5, by kernel_rfl, by decide, by kernel_rfl⟩, by decide⟩
theorem el104 : ElemOf Try.prog 104 1 false := ⟨⟨33, 24, .emp 0, telem104, tsize33, tbytes33, tzero33, tagg33, by kernel_rfl, by decide, by kernel_rfl⟩, by decide⟩
end Go.Proofs.Ytnhcmcfgemoehaa
