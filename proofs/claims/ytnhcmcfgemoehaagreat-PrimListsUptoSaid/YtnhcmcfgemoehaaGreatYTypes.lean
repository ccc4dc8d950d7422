import Derived.Test.YtnhcmcfgemoehaaGreatVE
import Derived.Test.YtnhcmcfgemoehaaGreatRows
/- What the program's types are, by a program. -/
set_option linter.unusedSimpArgs false
set_option linter.unusedVariables false
set_option linter.unusedSectionVars false
namespace Go.Proofs.YtnhcmcfgemoehaaGreat
open Go.V
attribute [simp] fzx_f fzx_t
/-- The zero datum's cells. -/
def zeroCells : List AV := [.sc (.int .i64 0), .sc (.int .i64 0), .sc (.string ⟨⟨[]⟩⟩), .emp 0, .emp 0, .emp 0]
@[simp] theorem zeroCells_length : zeroCells.length = 6 := rfl
@[simp] theorem zeroCells_take : List.take 6 zeroCells = zeroCells := rfl
@[simp] theorem zeroCells_drop : List.drop 6 zeroCells = [] := rfl
@[simp] theorem okc_nilFunc : AV.okc (.sc .nilFunc) = true := Eq.trans rfl rfl
@[simp] theorem cells_nilFunc : AV.cells (.sc .nilFunc) = [.sc .nilFunc] := Eq.trans rfl rfl
@[simp] theorem okc_pointer {x : Option Addr} : AV.okc (.sc (.pointer x)) = true := Eq.trans rfl rfl
@[simp] theorem cells_pointer {x : Option Addr} : AV.cells (.sc (.pointer x)) = [.sc (.pointer x)] := Eq.trans rfl rfl
@[simp] theorem okc_map {x : Option Nat} : AV.okc (.sc (.map x)) = true := Eq.trans rfl rfl
@[simp] theorem cells_map {x : Option Nat} : AV.cells (.sc (.map x)) = [.sc (.map x)] := Eq.trans rfl rfl
@[simp] theorem okc_mp {x : Nat} : AV.okc (.mp x) = true := Eq.trans rfl rfl
@[simp] theorem cells_mp {x : Nat} : AV.cells (.mp x) = [.mp x] := Eq.trans rfl rfl
@[simp] theorem okc_iface {t : TypeId} {x : AV} : AV.okc (.iface t x) = true := Eq.trans rfl rfl
@[simp] theorem cells_iface {t : TypeId} {x : AV} : AV.cells (.iface t x) = [.iface t x] := Eq.trans rfl rfl
@[simp] theorem okc_nilIface : AV.okc (.sc .nilIface) = true := Eq.trans rfl rfl
@[simp] theorem cells_nilIface : AV.cells (.sc .nilIface) = [.sc .nilIface] := Eq.trans rfl rfl
attribute [simp] Tryz.underlying1
@[simp] theorem tagg1 : tagg Tryz.prog 1 = some false := by kernel_rfl
@[simp] theorem tsize1 : tsize Tryz.prog 1 = some 1 := by kernel_rfl
@[simp] theorem tbytes1 : tbytes Tryz.prog 1 = some 8 := by kernel_rfl
@[simp] theorem tzero1 : tzero Tryz.prog 1 = some (.sc (.nilFunc)) := by kernel_rfl
attribute [simp] Tryz.underlying2
@[simp] theorem tagg2 : tagg Tryz.prog 2 = some false := by kernel_rfl
@[simp] theorem tsize2 : tsize Tryz.prog 2 = some 1 := by kernel_rfl
@[simp] theorem tbytes2 : tbytes Tryz.prog 2 = some 8 := by kernel_rfl
@[simp] theorem tzero2 : tzero Tryz.prog 2 = some (.sc (.int .i64 0)) := by kernel_rfl
attribute [simp] Tryz.underlying3
@[simp] theorem tagg3 : tagg Tryz.prog 3 = some false := by kernel_rfl
@[simp] theorem tsize3 : tsize Tryz.prog 3 = some 1 := by kernel_rfl
@[simp] theorem tbytes3 : tbytes Tryz.prog 3 = some 8 := by kernel_rfl
@[simp] theorem tzero3 : tzero Tryz.prog 3 = some (.sc (.int .i64 0)) := by kernel_rfl
attribute [simp] Tryz.underlying4
@[simp] theorem tagg4 : tagg Tryz.prog 4 = some false := by kernel_rfl
@[simp] theorem tsize4 : tsize Tryz.prog 4 = some 1 := by kernel_rfl
@[simp] theorem tbytes4 : tbytes Tryz.prog 4 = some 1 := by kernel_rfl
@[simp] theorem tzero4 : tzero Tryz.prog 4 = some (.sc (.bool false)) := by kernel_rfl
attribute [simp] Tryz.underlying5
@[simp] theorem tagg5 : tagg Tryz.prog 5 = some false := by kernel_rfl
@[simp] theorem tsize5 : tsize Tryz.prog 5 = some 1 := by kernel_rfl
@[simp] theorem tbytes5 : tbytes Tryz.prog 5 = some 1 := by kernel_rfl
@[simp] theorem tzero5 : tzero Tryz.prog 5 = some (.sc (.int .u8 0)) := by kernel_rfl
attribute [simp] Tryz.underlying6
@[simp] theorem tagg6 : tagg Tryz.prog 6 = some false := by kernel_rfl
@[simp] theorem tsize6 : tsize Tryz.prog 6 = some 1 := by kernel_rfl
@[simp] theorem tbytes6 : tbytes Tryz.prog 6 = some 1 := by kernel_rfl
@[simp] theorem tzero6 : tzero Tryz.prog 6 = some (.sc (.int .u8 0)) := by kernel_rfl
attribute [simp] Tryz.underlying7
@[simp] theorem tagg7 : tagg Tryz.prog 7 = some true := by kernel_rfl
@[simp] theorem tsize7 : tsize Tryz.prog 7 = some 4 := by kernel_rfl
@[simp] theorem tbytes7 : tbytes Tryz.prog 7 = some 24 := by kernel_rfl
@[simp] theorem tzero7 : tzero Tryz.prog 7 = some (.agg [.sc (.int .i64 0), .sc (.int .i64 0), .sc (.bool false), .sc (.int .u8 0)]) := by kernel_rfl
@[simp] theorem fieldAddr7_0 {id off : Nat} : afieldAddr Tryz.prog 7 (.ptr id off) 0 = some (.ptr id (off + 0)) := by simp [afieldAddr, tfield]
@[simp] theorem fieldAddr7_0c {x : AV} {off : Nat} : afieldAddr Tryz.prog 7 (.cptr x off) 0 = some (.cptr x (off + 0)) := by simp [afieldAddr, tfield]
@[simp] theorem fieldAddr7_1 {id off : Nat} : afieldAddr Tryz.prog 7 (.ptr id off) 1 = some (.ptr id (off + 1)) := by simp [afieldAddr, tfield]
@[simp] theorem fieldAddr7_1c {x : AV} {off : Nat} : afieldAddr Tryz.prog 7 (.cptr x off) 1 = some (.cptr x (off + 1)) := by simp [afieldAddr, tfield]
@[simp] theorem fieldAddr7_2 {id off : Nat} : afieldAddr Tryz.prog 7 (.ptr id off) 2 = some (.ptr id (off + 2)) := by simp [afieldAddr, tfield]
@[simp] theorem fieldAddr7_2c {x : AV} {off : Nat} : afieldAddr Tryz.prog 7 (.cptr x off) 2 = some (.cptr x (off + 2)) := by simp [afieldAddr, tfield]
@[simp] theorem fieldAddr7_3 {id off : Nat} : afieldAddr Tryz.prog 7 (.ptr id off) 3 = some (.ptr id (off + 3)) := by simp [afieldAddr, tfield]
@[simp] theorem fieldAddr7_3c {x : AV} {off : Nat} : afieldAddr Tryz.prog 7 (.cptr x off) 3 = some (.cptr x (off + 3)) := by simp [afieldAddr, tfield]
attribute [simp] Tryz.underlying8
@[simp] theorem tagg8 : tagg Tryz.prog 8 = some true := by kernel_rfl
@[simp] theorem tsize8 : tsize Tryz.prog 8 = some 4 := by kernel_rfl
@[simp] theorem tbytes8 : tbytes Tryz.prog 8 = some 24 := by kernel_rfl
@[simp] theorem tzero8 : tzero Tryz.prog 8 = some (.agg [.sc (.int .i64 0), .sc (.int .i64 0), .sc (.bool false), .sc (.int .u8 0)]) := by kernel_rfl
@[simp] theorem fieldAddr8_0 {id off : Nat} : afieldAddr Tryz.prog 8 (.ptr id off) 0 = some (.ptr id (off + 0)) := by simp [afieldAddr, tfield]
@[simp] theorem fieldAddr8_0c {x : AV} {off : Nat} : afieldAddr Tryz.prog 8 (.cptr x off) 0 = some (.cptr x (off + 0)) := by simp [afieldAddr, tfield]
@[simp] theorem fieldAddr8_1 {id off : Nat} : afieldAddr Tryz.prog 8 (.ptr id off) 1 = some (.ptr id (off + 1)) := by simp [afieldAddr, tfield]
@[simp] theorem fieldAddr8_1c {x : AV} {off : Nat} : afieldAddr Tryz.prog 8 (.cptr x off) 1 = some (.cptr x (off + 1)) := by simp [afieldAddr, tfield]
@[simp] theorem fieldAddr8_2 {id off : Nat} : afieldAddr Tryz.prog 8 (.ptr id off) 2 = some (.ptr id (off + 2)) := by simp [afieldAddr, tfield]
@[simp] theorem fieldAddr8_2c {x : AV} {off : Nat} : afieldAddr Tryz.prog 8 (.cptr x off) 2 = some (.cptr x (off + 2)) := by simp [afieldAddr, tfield]
@[simp] theorem fieldAddr8_3 {id off : Nat} : afieldAddr Tryz.prog 8 (.ptr id off) 3 = some (.ptr id (off + 3)) := by simp [afieldAddr, tfield]
@[simp] theorem fieldAddr8_3c {x : AV} {off : Nat} : afieldAddr Tryz.prog 8 (.cptr x off) 3 = some (.cptr x (off + 3)) := by simp [afieldAddr, tfield]
attribute [simp] Tryz.underlying9
@[simp] theorem tagg9 : tagg Tryz.prog 9 = some false := by kernel_rfl
@[simp] theorem tsize9 : tsize Tryz.prog 9 = some 1 := by kernel_rfl
@[simp] theorem tbytes9 : tbytes Tryz.prog 9 = some 16 := by kernel_rfl
@[simp] theorem tzero9 : tzero Tryz.prog 9 = some (.sc (.string ⟨⟨[]⟩⟩)) := by kernel_rfl
attribute [simp] Tryz.underlying10
@[simp] theorem tagg10 : tagg Tryz.prog 10 = some false := by kernel_rfl
@[simp] theorem tsize10 : tsize Tryz.prog 10 = some 1 := by kernel_rfl
@[simp] theorem tbytes10 : tbytes Tryz.prog 10 = some 16 := by kernel_rfl
@[simp] theorem tzero10 : tzero Tryz.prog 10 = some (.sc (.string ⟨⟨[]⟩⟩)) := by kernel_rfl
attribute [simp] Tryz.underlying11
@[simp] theorem tagg11 : tagg Tryz.prog 11 = some false := by kernel_rfl
@[simp] theorem tsize11 : tsize Tryz.prog 11 = some 1 := by kernel_rfl
@[simp] theorem tbytes11 : tbytes Tryz.prog 11 = some 16 := by kernel_rfl
@[simp] theorem tzero11 : tzero Tryz.prog 11 = some (.sc (.string ⟨⟨[]⟩⟩)) := by kernel_rfl
attribute [simp] Tryz.underlying12
@[simp] theorem tagg12 : tagg Tryz.prog 12 = some false := by kernel_rfl
@[simp] theorem tsize12 : tsize Tryz.prog 12 = some 1 := by kernel_rfl
@[simp] theorem tbytes12 : tbytes Tryz.prog 12 = some 8 := by kernel_rfl
@[simp] theorem tzero12 : tzero Tryz.prog 12 = some (.sc (.int .u64 0)) := by kernel_rfl
attribute [simp] Tryz.underlying13
@[simp] theorem tagg13 : tagg Tryz.prog 13 = some true := by kernel_rfl
@[simp] theorem tsize13 : tsize Tryz.prog 13 = some 2 := by kernel_rfl
@[simp] theorem tbytes13 : tbytes Tryz.prog 13 = some 24 := by kernel_rfl
@[simp] theorem tzero13 : tzero Tryz.prog 13 = some (.agg [.sc (.string ⟨⟨[]⟩⟩), .sc (.int .u64 0)]) := by kernel_rfl
@[simp] theorem fieldAddr13_0 {id off : Nat} : afieldAddr Tryz.prog 13 (.ptr id off) 0 = some (.ptr id (off + 0)) := by simp [afieldAddr, tfield]
@[simp] theorem fieldAddr13_0c {x : AV} {off : Nat} : afieldAddr Tryz.prog 13 (.cptr x off) 0 = some (.cptr x (off + 0)) := by simp [afieldAddr, tfield]
@[simp] theorem fieldAddr13_1 {id off : Nat} : afieldAddr Tryz.prog 13 (.ptr id off) 1 = some (.ptr id (off + 1)) := by simp [afieldAddr, tfield]
@[simp] theorem fieldAddr13_1c {x : AV} {off : Nat} : afieldAddr Tryz.prog 13 (.cptr x off) 1 = some (.cptr x (off + 1)) := by simp [afieldAddr, tfield]
attribute [simp] Tryz.underlying14
@[simp] theorem tagg14 : tagg Tryz.prog 14 = some true := by kernel_rfl
@[simp] theorem tsize14 : tsize Tryz.prog 14 = some 2 := by kernel_rfl
@[simp] theorem tbytes14 : tbytes Tryz.prog 14 = some 24 := by kernel_rfl
@[simp] theorem tzero14 : tzero Tryz.prog 14 = some (.agg [.sc (.string ⟨⟨[]⟩⟩), .sc (.int .u64 0)]) := by kernel_rfl
@[simp] theorem fieldAddr14_0 {id off : Nat} : afieldAddr Tryz.prog 14 (.ptr id off) 0 = some (.ptr id (off + 0)) := by simp [afieldAddr, tfield]
@[simp] theorem fieldAddr14_0c {x : AV} {off : Nat} : afieldAddr Tryz.prog 14 (.cptr x off) 0 = some (.cptr x (off + 0)) := by simp [afieldAddr, tfield]
@[simp] theorem fieldAddr14_1 {id off : Nat} : afieldAddr Tryz.prog 14 (.ptr id off) 1 = some (.ptr id (off + 1)) := by simp [afieldAddr, tfield]
@[simp] theorem fieldAddr14_1c {x : AV} {off : Nat} : afieldAddr Tryz.prog 14 (.cptr x off) 1 = some (.cptr x (off + 1)) := by simp [afieldAddr, tfield]
attribute [simp] Tryz.underlying15
@[simp] theorem tagg15 : tagg Tryz.prog 15 = some false := by kernel_rfl
@[simp] theorem tsize15 : tsize Tryz.prog 15 = some 1 := by kernel_rfl
@[simp] theorem tbytes15 : tbytes Tryz.prog 15 = some 8 := by kernel_rfl
@[simp] theorem tzero15 : tzero Tryz.prog 15 = some (.sc (.pointer Option.none)) := by kernel_rfl
attribute [simp] Tryz.underlying16
@[simp] theorem tagg16 : tagg Tryz.prog 16 = some false := by kernel_rfl
@[simp] theorem tsize16 : tsize Tryz.prog 16 = some 1 := by kernel_rfl
@[simp] theorem tbytes16 : tbytes Tryz.prog 16 = some 8 := by kernel_rfl
@[simp] theorem tzero16 : tzero Tryz.prog 16 = some (.sc (.pointer Option.none)) := by kernel_rfl
attribute [simp] Tryz.underlying17
@[simp] theorem tagg17 : tagg Tryz.prog 17 = some false := by kernel_rfl
@[simp] theorem tsize17 : tsize Tryz.prog 17 = some 1 := by kernel_rfl
@[simp] theorem tbytes17 : tbytes Tryz.prog 17 = some 8 := by kernel_rfl
@[simp] theorem tzero17 : tzero Tryz.prog 17 = some (.sc (.pointer Option.none)) := by kernel_rfl
attribute [simp] Tryz.underlying18
@[simp] theorem tagg18 : tagg Tryz.prog 18 = some true := by kernel_rfl
@[simp] theorem tsize18 : tsize Tryz.prog 18 = some 1 := by kernel_rfl
@[simp] theorem tbytes18 : tbytes Tryz.prog 18 = some 8 := by kernel_rfl
@[simp] theorem tzero18 : tzero Tryz.prog 18 = some (.agg [.sc (.pointer Option.none)]) := by kernel_rfl
@[simp] theorem fieldAddr18_0 {id off : Nat} : afieldAddr Tryz.prog 18 (.ptr id off) 0 = some (.ptr id (off + 0)) := by simp [afieldAddr, tfield]
@[simp] theorem fieldAddr18_0c {x : AV} {off : Nat} : afieldAddr Tryz.prog 18 (.cptr x off) 0 = some (.cptr x (off + 0)) := by simp [afieldAddr, tfield]
attribute [simp] Tryz.underlying19
@[simp] theorem tagg19 : tagg Tryz.prog 19 = some true := by kernel_rfl
@[simp] theorem tsize19 : tsize Tryz.prog 19 = some 1 := by kernel_rfl
@[simp] theorem tbytes19 : tbytes Tryz.prog 19 = some 8 := by kernel_rfl
@[simp] theorem tzero19 : tzero Tryz.prog 19 = some (.agg [.sc (.pointer Option.none)]) := by kernel_rfl
@[simp] theorem fieldAddr19_0 {id off : Nat} : afieldAddr Tryz.prog 19 (.ptr id off) 0 = some (.ptr id (off + 0)) := by simp [afieldAddr, tfield]
@[simp] theorem fieldAddr19_0c {x : AV} {off : Nat} : afieldAddr Tryz.prog 19 (.cptr x off) 0 = some (.cptr x (off + 0)) := by simp [afieldAddr, tfield]
attribute [simp] Tryz.underlying20
@[simp] theorem tagg20 : tagg Tryz.prog 20 = some false := by kernel_rfl
@[simp] theorem tsize20 : tsize Tryz.prog 20 = some 1 := by kernel_rfl
@[simp] theorem tbytes20 : tbytes Tryz.prog 20 = some 16 := by kernel_rfl
@[simp] theorem tzero20 : tzero Tryz.prog 20 = some (.sc (.nilIface)) := by kernel_rfl
attribute [simp] Tryz.underlying21
@[simp] theorem tagg21 : tagg Tryz.prog 21 = some false := by kernel_rfl
@[simp] theorem tsize21 : tsize Tryz.prog 21 = some 1 := by kernel_rfl
@[simp] theorem tbytes21 : tbytes Tryz.prog 21 = some 4 := by kernel_rfl
@[simp] theorem tzero21 : tzero Tryz.prog 21 = some (.sc (.int .i32 0)) := by kernel_rfl
attribute [simp] Tryz.underlying22
@[simp] theorem tagg22 : tagg Tryz.prog 22 = some false := by kernel_rfl
@[simp] theorem tsize22 : tsize Tryz.prog 22 = some 1 := by kernel_rfl
@[simp] theorem tbytes22 : tbytes Tryz.prog 22 = some 8 := by kernel_rfl
@[simp] theorem tzero22 : tzero Tryz.prog 22 = some (.sc (.nilFunc)) := by kernel_rfl
attribute [simp] Tryz.underlying23
@[simp] theorem tagg23 : tagg Tryz.prog 23 = some true := by kernel_rfl
@[simp] theorem tsize23 : tsize Tryz.prog 23 = some 4 := by kernel_rfl
@[simp] theorem tbytes23 : tbytes Tryz.prog 23 = some 40 := by kernel_rfl
@[simp] theorem tzero23 : tzero Tryz.prog 23 = some (.agg [.sc (.int .i64 0), .sc (.string ⟨⟨[]⟩⟩), .sc (.int .i64 0), .sc (.int .i64 0)]) := by kernel_rfl
@[simp] theorem fieldAddr23_0 {id off : Nat} : afieldAddr Tryz.prog 23 (.ptr id off) 0 = some (.ptr id (off + 0)) := by simp [afieldAddr, tfield]
@[simp] theorem fieldAddr23_0c {x : AV} {off : Nat} : afieldAddr Tryz.prog 23 (.cptr x off) 0 = some (.cptr x (off + 0)) := by simp [afieldAddr, tfield]
@[simp] theorem fieldAddr23_1 {id off : Nat} : afieldAddr Tryz.prog 23 (.ptr id off) 1 = some (.ptr id (off + 1)) := by simp [afieldAddr, tfield]
@[simp] theorem fieldAddr23_1c {x : AV} {off : Nat} : afieldAddr Tryz.prog 23 (.cptr x off) 1 = some (.cptr x (off + 1)) := by simp [afieldAddr, tfield]
@[simp] theorem fieldAddr23_2 {id off : Nat} : afieldAddr Tryz.prog 23 (.ptr id off) 2 = some (.ptr id (off + 2)) := by simp [afieldAddr, tfield]
@[simp] theorem fieldAddr23_2c {x : AV} {off : Nat} : afieldAddr Tryz.prog 23 (.cptr x off) 2 = some (.cptr x (off + 2)) := by simp [afieldAddr, tfield]
@[simp] theorem fieldAddr23_3 {id off : Nat} : afieldAddr Tryz.prog 23 (.ptr id off) 3 = some (.ptr id (off + 3)) := by simp [afieldAddr, tfield]
@[simp] theorem fieldAddr23_3c {x : AV} {off : Nat} : afieldAddr Tryz.prog 23 (.cptr x off) 3 = some (.cptr x (off + 3)) := by simp [afieldAddr, tfield]
attribute [simp] Tryz.underlying24
@[simp] theorem tagg24 : tagg Tryz.prog 24 = some true := by kernel_rfl
@[simp] theorem tsize24 : tsize Tryz.prog 24 = some 4 := by kernel_rfl
@[simp] theorem tbytes24 : tbytes Tryz.prog 24 = some 40 := by kernel_rfl
@[simp] theorem tzero24 : tzero Tryz.prog 24 = some (.agg [.sc (.int .i64 0), .sc (.string ⟨⟨[]⟩⟩), .sc (.int .i64 0), .sc (.int .i64 0)]) := by kernel_rfl
@[simp] theorem fieldAddr24_0 {id off : Nat} : afieldAddr Tryz.prog 24 (.ptr id off) 0 = some (.ptr id (off + 0)) := by simp [afieldAddr, tfield]
@[simp] theorem fieldAddr24_0c {x : AV} {off : Nat} : afieldAddr Tryz.prog 24 (.cptr x off) 0 = some (.cptr x (off + 0)) := by simp [afieldAddr, tfield]
@[simp] theorem fieldAddr24_1 {id off : Nat} : afieldAddr Tryz.prog 24 (.ptr id off) 1 = some (.ptr id (off + 1)) := by simp [afieldAddr, tfield]
@[simp] theorem fieldAddr24_1c {x : AV} {off : Nat} : afieldAddr Tryz.prog 24 (.cptr x off) 1 = some (.cptr x (off + 1)) := by simp [afieldAddr, tfield]
@[simp] theorem fieldAddr24_2 {id off : Nat} : afieldAddr Tryz.prog 24 (.ptr id off) 2 = some (.ptr id (off + 2)) := by simp [afieldAddr, tfield]
@[simp] theorem fieldAddr24_2c {x : AV} {off : Nat} : afieldAddr Tryz.prog 24 (.cptr x off) 2 = some (.cptr x (off + 2)) := by simp [afieldAddr, tfield]
@[simp] theorem fieldAddr24_3 {id off : Nat} : afieldAddr Tryz.prog 24 (.ptr id off) 3 = some (.ptr id (off + 3)) := by simp [afieldAddr, tfield]
@[simp] theorem fieldAddr24_3c {x : AV} {off : Nat} : afieldAddr Tryz.prog 24 (.cptr x off) 3 = some (.cptr x (off + 3)) := by simp [afieldAddr, tfield]
attribute [simp] Tryz.underlying26
@[simp] theorem tagg26 : tagg Tryz.prog 26 = some false := by kernel_rfl
@[simp] theorem tsize26 : tsize Tryz.prog 26 = some 1 := by kernel_rfl
@[simp] theorem tbytes26 : tbytes Tryz.prog 26 = some 8 := by kernel_rfl
@[simp] theorem tzero26 : tzero Tryz.prog 26 = some (.sc (.nilFunc)) := by kernel_rfl
attribute [simp] Tryz.underlying28
@[simp] theorem tagg28 : tagg Tryz.prog 28 = some false := by kernel_rfl
@[simp] theorem tsize28 : tsize Tryz.prog 28 = some 1 := by kernel_rfl
@[simp] theorem tbytes28 : tbytes Tryz.prog 28 = some 8 := by kernel_rfl
@[simp] theorem tzero28 : tzero Tryz.prog 28 = some (.sc (.nilFunc)) := by kernel_rfl
attribute [simp] Tryz.underlying30
@[simp] theorem tagg30 : tagg Tryz.prog 30 = some false := by kernel_rfl
@[simp] theorem tsize30 : tsize Tryz.prog 30 = some 1 := by kernel_rfl
@[simp] theorem tbytes30 : tbytes Tryz.prog 30 = some 8 := by kernel_rfl
@[simp] theorem tzero30 : tzero Tryz.prog 30 = some (.sc (.nilFunc)) := by kernel_rfl
attribute [simp] Tryz.underlying31
@[simp] theorem tagg31 : tagg Tryz.prog 31 = some false := by kernel_rfl
@[simp] theorem tsize31 : tsize Tryz.prog 31 = some 1 := by kernel_rfl
@[simp] theorem tbytes31 : tbytes Tryz.prog 31 = some 24 := by kernel_rfl
@[simp] theorem tzero31 : tzero Tryz.prog 31 = some (.emp 0) := by kernel_rfl
@[simp] theorem telem31 : telem Tryz.prog 31 = some 35 := by kernel_rfl
@[simp] theorem nofz31 : nofz Tryz.prog 31 = false := by kernel_rfl
attribute [simp] Tryz.underlying32
@[simp] theorem tagg32 : tagg Tryz.prog 32 = some false := by kernel_rfl
@[simp] theorem tsize32 : tsize Tryz.prog 32 = some 1 := by kernel_rfl
@[simp] theorem tbytes32 : tbytes Tryz.prog 32 = some 24 := by kernel_rfl
@[simp] theorem tzero32 : tzero Tryz.prog 32 = some (.emp 0) := by kernel_rfl
@[simp] theorem telem32 : telem Tryz.prog 32 = some 24 := by kernel_rfl
@[simp] theorem nofz32 : nofz Tryz.prog 32 = false := by kernel_rfl
attribute [simp] Tryz.underlying33
@[simp] theorem tagg33 : tagg Tryz.prog 33 = some false := by kernel_rfl
@[simp] theorem tsize33 : tsize Tryz.prog 33 = some 1 := by kernel_rfl
@[simp] theorem tbytes33 : tbytes Tryz.prog 33 = some 8 := by kernel_rfl
@[simp] theorem tzero33 : tzero Tryz.prog 33 = some (.sc (.nilFunc)) := by kernel_rfl
attribute [simp] Tryz.underlying34
@[simp] theorem tagg34 : tagg Tryz.prog 34 = some true := by kernel_rfl
@[simp] theorem tsize34 : tsize Tryz.prog 34 = some 2 := by kernel_rfl
@[simp] theorem tbytes34 : tbytes Tryz.prog 34 = some 24 := by kernel_rfl
@[simp] theorem tzero34 : tzero Tryz.prog 34 = some (.agg [.sc (.int .i64 0), .sc (.string ⟨⟨[]⟩⟩)]) := by kernel_rfl
@[simp] theorem fieldAddr34_0 {id off : Nat} : afieldAddr Tryz.prog 34 (.ptr id off) 0 = some (.ptr id (off + 0)) := by simp [afieldAddr, tfield]
@[simp] theorem fieldAddr34_0c {x : AV} {off : Nat} : afieldAddr Tryz.prog 34 (.cptr x off) 0 = some (.cptr x (off + 0)) := by simp [afieldAddr, tfield]
@[simp] theorem fieldAddr34_1 {id off : Nat} : afieldAddr Tryz.prog 34 (.ptr id off) 1 = some (.ptr id (off + 1)) := by simp [afieldAddr, tfield]
@[simp] theorem fieldAddr34_1c {x : AV} {off : Nat} : afieldAddr Tryz.prog 34 (.cptr x off) 1 = some (.cptr x (off + 1)) := by simp [afieldAddr, tfield]
attribute [simp] Tryz.underlying35
@[simp] theorem tagg35 : tagg Tryz.prog 35 = some true := by kernel_rfl
@[simp] theorem tsize35 : tsize Tryz.prog 35 = some 2 := by kernel_rfl
@[simp] theorem tbytes35 : tbytes Tryz.prog 35 = some 24 := by kernel_rfl
@[simp] theorem tzero35 : tzero Tryz.prog 35 = some (.agg [.sc (.int .i64 0), .sc (.string ⟨⟨[]⟩⟩)]) := by kernel_rfl
@[simp] theorem fieldAddr35_0 {id off : Nat} : afieldAddr Tryz.prog 35 (.ptr id off) 0 = some (.ptr id (off + 0)) := by simp [afieldAddr, tfield]
@[simp] theorem fieldAddr35_0c {x : AV} {off : Nat} : afieldAddr Tryz.prog 35 (.cptr x off) 0 = some (.cptr x (off + 0)) := by simp [afieldAddr, tfield]
@[simp] theorem fieldAddr35_1 {id off : Nat} : afieldAddr Tryz.prog 35 (.ptr id off) 1 = some (.ptr id (off + 1)) := by simp [afieldAddr, tfield]
@[simp] theorem fieldAddr35_1c {x : AV} {off : Nat} : afieldAddr Tryz.prog 35 (.cptr x off) 1 = some (.cptr x (off + 1)) := by simp [afieldAddr, tfield]
attribute [simp] Tryz.underlying36
@[simp] theorem tagg36 : tagg Tryz.prog 36 = some false := by kernel_rfl
@[simp] theorem tsize36 : tsize Tryz.prog 36 = some 1 := by kernel_rfl
@[simp] theorem tbytes36 : tbytes Tryz.prog 36 = some 8 := by kernel_rfl
@[simp] theorem tzero36 : tzero Tryz.prog 36 = some (.sc (.nilFunc)) := by kernel_rfl
attribute [simp] Tryz.underlying37
@[simp] theorem tagg37 : tagg Tryz.prog 37 = some false := by kernel_rfl
@[simp] theorem tsize37 : tsize Tryz.prog 37 = some 1 := by kernel_rfl
@[simp] theorem tbytes37 : tbytes Tryz.prog 37 = some 8 := by kernel_rfl
@[simp] theorem tzero37 : tzero Tryz.prog 37 = some (.sc (.nilFunc)) := by kernel_rfl
attribute [simp] Tryz.underlying38
@[simp] theorem tagg38 : tagg Tryz.prog 38 = some false := by kernel_rfl
@[simp] theorem tsize38 : tsize Tryz.prog 38 = some 1 := by kernel_rfl
@[simp] theorem tbytes38 : tbytes Tryz.prog 38 = some 8 := by kernel_rfl
@[simp] theorem tzero38 : tzero Tryz.prog 38 = some (.sc (.nilFunc)) := by kernel_rfl
attribute [simp] Tryz.underlying39
@[simp] theorem tagg39 : tagg Tryz.prog 39 = some false := by kernel_rfl
@[simp] theorem tsize39 : tsize Tryz.prog 39 = some 1 := by kernel_rfl
@[simp] theorem tbytes39 : tbytes Tryz.prog 39 = some 8 := by kernel_rfl
@[simp] theorem tzero39 : tzero Tryz.prog 39 = some (.sc (.nilFunc)) := by kernel_rfl
attribute [simp] Tryz.underlying40
@[simp] theorem tagg40 : tagg Tryz.prog 40 = some false := by kernel_rfl
@[simp] theorem tsize40 : tsize Tryz.prog 40 = some 1 := by kernel_rfl
@[simp] theorem tbytes40 : tbytes Tryz.prog 40 = some 8 := by kernel_rfl
@[simp] theorem tzero40 : tzero Tryz.prog 40 = some (.sc (.nilFunc)) := by kernel_rfl
attribute [simp] Tryz.underlying41
@[simp] theorem tagg41 : tagg Tryz.prog 41 = some false := by kernel_rfl
@[simp] theorem tsize41 : tsize Tryz.prog 41 = some 1 := by kernel_rfl
@[simp] theorem tbytes41 : tbytes Tryz.prog 41 = some 8 := by kernel_rfl
@[simp] theorem tzero41 : tzero Tryz.prog 41 = some (.sc (.nilFunc)) := by kernel_rfl
attribute [simp] Tryz.underlying42
@[simp] theorem tagg42 : tagg Tryz.prog 42 = some false := by kernel_rfl
@[simp] theorem tsize42 : tsize Tryz.prog 42 = some 1 := by kernel_rfl
@[simp] theorem tbytes42 : tbytes Tryz.prog 42 = some 8 := by kernel_rfl
@[simp] theorem tzero42 : tzero Tryz.prog 42 = some (.sc (.nilFunc)) := by kernel_rfl
attribute [simp] Tryz.underlying43
@[simp] theorem tagg43 : tagg Tryz.prog 43 = some false := by kernel_rfl
@[simp] theorem tsize43 : tsize Tryz.prog 43 = some 1 := by kernel_rfl
@[simp] theorem tbytes43 : tbytes Tryz.prog 43 = some 24 := by kernel_rfl
@[simp] theorem tzero43 : tzero Tryz.prog 43 = some (.emp 0) := by kernel_rfl
@[simp] theorem telem43 : telem Tryz.prog 43 = some 56 := by kernel_rfl
@[simp] theorem nofz43 : nofz Tryz.prog 43 = false := by kernel_rfl
attribute [simp] Tryz.underlying44
@[simp] theorem tagg44 : tagg Tryz.prog 44 = some false := by kernel_rfl
@[simp] theorem tsize44 : tsize Tryz.prog 44 = some 1 := by kernel_rfl
@[simp] theorem tbytes44 : tbytes Tryz.prog 44 = some 2 := by kernel_rfl
@[simp] theorem tzero44 : tzero Tryz.prog 44 = some (.sc (.int .u16 0)) := by kernel_rfl
attribute [simp] Tryz.underlying45
@[simp] theorem tagg45 : tagg Tryz.prog 45 = some false := by kernel_rfl
@[simp] theorem tsize45 : tsize Tryz.prog 45 = some 1 := by kernel_rfl
@[simp] theorem tbytes45 : tbytes Tryz.prog 45 = some 8 := by kernel_rfl
@[simp] theorem tzero45 : tzero Tryz.prog 45 = some (.sc (.nilFunc)) := by kernel_rfl
attribute [simp] Tryz.underlying46
@[simp] theorem tagg46 : tagg Tryz.prog 46 = some false := by kernel_rfl
@[simp] theorem tsize46 : tsize Tryz.prog 46 = some 1 := by kernel_rfl
@[simp] theorem tbytes46 : tbytes Tryz.prog 46 = some 8 := by kernel_rfl
@[simp] theorem tzero46 : tzero Tryz.prog 46 = some (.sc (.pointer Option.none)) := by kernel_rfl
attribute [simp] Tryz.underlying47
@[simp] theorem tagg47 : tagg Tryz.prog 47 = some false := by kernel_rfl
@[simp] theorem tsize47 : tsize Tryz.prog 47 = some 1 := by kernel_rfl
@[simp] theorem tbytes47 : tbytes Tryz.prog 47 = some 8 := by kernel_rfl
@[simp] theorem tzero47 : tzero Tryz.prog 47 = some (.sc (.int .i64 0)) := by kernel_rfl
attribute [simp] Tryz.underlying49
@[simp] theorem tagg49 : tagg Tryz.prog 49 = some false := by kernel_rfl
@[simp] theorem tsize49 : tsize Tryz.prog 49 = some 1 := by kernel_rfl
@[simp] theorem tbytes49 : tbytes Tryz.prog 49 = some 8 := by kernel_rfl
@[simp] theorem tzero49 : tzero Tryz.prog 49 = some (.sc (.nilFunc)) := by kernel_rfl
attribute [simp] Tryz.underlying50
@[simp] theorem tagg50 : tagg Tryz.prog 50 = some true := by kernel_rfl
@[simp] theorem tsize50 : tsize Tryz.prog 50 = some 2 := by kernel_rfl
@[simp] theorem tbytes50 : tbytes Tryz.prog 50 = some 16 := by kernel_rfl
@[simp] theorem tzero50 : tzero Tryz.prog 50 = some (.agg [.sc (.int .i64 0), .sc (.int .i64 0)]) := by kernel_rfl
@[simp] theorem fieldAddr50_0 {id off : Nat} : afieldAddr Tryz.prog 50 (.ptr id off) 0 = some (.ptr id (off + 0)) := by simp [afieldAddr, tfield]
@[simp] theorem fieldAddr50_0c {x : AV} {off : Nat} : afieldAddr Tryz.prog 50 (.cptr x off) 0 = some (.cptr x (off + 0)) := by simp [afieldAddr, tfield]
@[simp] theorem fieldAddr50_1 {id off : Nat} : afieldAddr Tryz.prog 50 (.ptr id off) 1 = some (.ptr id (off + 1)) := by simp [afieldAddr, tfield]
@[simp] theorem fieldAddr50_1c {x : AV} {off : Nat} : afieldAddr Tryz.prog 50 (.cptr x off) 1 = some (.cptr x (off + 1)) := by simp [afieldAddr, tfield]
attribute [simp] Tryz.underlying51
@[simp] theorem tagg51 : tagg Tryz.prog 51 = some true := by kernel_rfl
@[simp] theorem tsize51 : tsize Tryz.prog 51 = some 2 := by kernel_rfl
@[simp] theorem tbytes51 : tbytes Tryz.prog 51 = some 16 := by kernel_rfl
@[simp] theorem tzero51 : tzero Tryz.prog 51 = some (.agg [.sc (.int .i64 0), .sc (.int .i64 0)]) := by kernel_rfl
@[simp] theorem fieldAddr51_0 {id off : Nat} : afieldAddr Tryz.prog 51 (.ptr id off) 0 = some (.ptr id (off + 0)) := by simp [afieldAddr, tfield]
@[simp] theorem fieldAddr51_0c {x : AV} {off : Nat} : afieldAddr Tryz.prog 51 (.cptr x off) 0 = some (.cptr x (off + 0)) := by simp [afieldAddr, tfield]
@[simp] theorem fieldAddr51_1 {id off : Nat} : afieldAddr Tryz.prog 51 (.ptr id off) 1 = some (.ptr id (off + 1)) := by simp [afieldAddr, tfield]
@[simp] theorem fieldAddr51_1c {x : AV} {off : Nat} : afieldAddr Tryz.prog 51 (.cptr x off) 1 = some (.cptr x (off + 1)) := by simp [afieldAddr, tfield]
attribute [simp] Tryz.underlying53
@[simp] theorem tagg53 : tagg Tryz.prog 53 = some false := by kernel_rfl
@[simp] theorem tsize53 : tsize Tryz.prog 53 = some 1 := by kernel_rfl
@[simp] theorem tbytes53 : tbytes Tryz.prog 53 = some 8 := by kernel_rfl
@[simp] theorem tzero53 : tzero Tryz.prog 53 = some (.sc (.nilFunc)) := by kernel_rfl
attribute [simp] Tryz.underlying54
@[simp] theorem tagg54 : tagg Tryz.prog 54 = some false := by kernel_rfl
@[simp] theorem tsize54 : tsize Tryz.prog 54 = some 1 := by kernel_rfl
@[simp] theorem tbytes54 : tbytes Tryz.prog 54 = some 24 := by kernel_rfl
@[simp] theorem tzero54 : tzero Tryz.prog 54 = some (.emp 0) := by kernel_rfl
@[simp] theorem telem54 : telem Tryz.prog 54 = some 3 := by kernel_rfl
@[simp] theorem nofz54 : nofz Tryz.prog 54 = false := by kernel_rfl
attribute [simp] Tryz.underlying55
@[simp] theorem tagg55 : tagg Tryz.prog 55 = some true := by kernel_rfl
@[simp] theorem tsize55 : tsize Tryz.prog 55 = some 6 := by kernel_rfl
@[simp] theorem tbytes55 : tbytes Tryz.prog 55 = some 104 := by kernel_rfl
@[simp] theorem tzero55 : tzero Tryz.prog 55 = some (.agg [.sc (.int .i64 0), .sc (.int .i64 0), .sc (.string ⟨⟨[]⟩⟩), .emp 0, .emp 0, .emp 0]) := by kernel_rfl
@[simp] theorem fieldAddr55_0 {id off : Nat} : afieldAddr Tryz.prog 55 (.ptr id off) 0 = some (.ptr id (off + 0)) := by simp [afieldAddr, tfield]
@[simp] theorem fieldAddr55_0c {x : AV} {off : Nat} : afieldAddr Tryz.prog 55 (.cptr x off) 0 = some (.cptr x (off + 0)) := by simp [afieldAddr, tfield]
@[simp] theorem fieldAddr55_1 {id off : Nat} : afieldAddr Tryz.prog 55 (.ptr id off) 1 = some (.ptr id (off + 1)) := by simp [afieldAddr, tfield]
@[simp] theorem fieldAddr55_1c {x : AV} {off : Nat} : afieldAddr Tryz.prog 55 (.cptr x off) 1 = some (.cptr x (off + 1)) := by simp [afieldAddr, tfield]
@[simp] theorem fieldAddr55_2 {id off : Nat} : afieldAddr Tryz.prog 55 (.ptr id off) 2 = some (.ptr id (off + 2)) := by simp [afieldAddr, tfield]
@[simp] theorem fieldAddr55_2c {x : AV} {off : Nat} : afieldAddr Tryz.prog 55 (.cptr x off) 2 = some (.cptr x (off + 2)) := by simp [afieldAddr, tfield]
@[simp] theorem fieldAddr55_3 {id off : Nat} : afieldAddr Tryz.prog 55 (.ptr id off) 3 = some (.ptr id (off + 3)) := by simp [afieldAddr, tfield]
@[simp] theorem fieldAddr55_3c {x : AV} {off : Nat} : afieldAddr Tryz.prog 55 (.cptr x off) 3 = some (.cptr x (off + 3)) := by simp [afieldAddr, tfield]
@[simp] theorem fieldAddr55_4 {id off : Nat} : afieldAddr Tryz.prog 55 (.ptr id off) 4 = some (.ptr id (off + 4)) := by simp [afieldAddr, tfield]
@[simp] theorem fieldAddr55_4c {x : AV} {off : Nat} : afieldAddr Tryz.prog 55 (.cptr x off) 4 = some (.cptr x (off + 4)) := by simp [afieldAddr, tfield]
@[simp] theorem fieldAddr55_5 {id off : Nat} : afieldAddr Tryz.prog 55 (.ptr id off) 5 = some (.ptr id (off + 5)) := by simp [afieldAddr, tfield]
@[simp] theorem fieldAddr55_5c {x : AV} {off : Nat} : afieldAddr Tryz.prog 55 (.cptr x off) 5 = some (.cptr x (off + 5)) := by simp [afieldAddr, tfield]
attribute [simp] Tryz.underlying56
@[simp] theorem tagg56 : tagg Tryz.prog 56 = some true := by kernel_rfl
@[simp] theorem tsize56 : tsize Tryz.prog 56 = some 6 := by kernel_rfl
@[simp] theorem tbytes56 : tbytes Tryz.prog 56 = some 104 := by kernel_rfl
@[simp] theorem tzero56 : tzero Tryz.prog 56 = some (.agg zeroCells) := by kernel_rfl
@[simp] theorem fieldAddr56_0 {id off : Nat} : afieldAddr Tryz.prog 56 (.ptr id off) 0 = some (.ptr id (off + 0)) := by simp [afieldAddr, tfield]
@[simp] theorem fieldAddr56_0c {x : AV} {off : Nat} : afieldAddr Tryz.prog 56 (.cptr x off) 0 = some (.cptr x (off + 0)) := by simp [afieldAddr, tfield]
@[simp] theorem fieldAddr56_1 {id off : Nat} : afieldAddr Tryz.prog 56 (.ptr id off) 1 = some (.ptr id (off + 1)) := by simp [afieldAddr, tfield]
@[simp] theorem fieldAddr56_1c {x : AV} {off : Nat} : afieldAddr Tryz.prog 56 (.cptr x off) 1 = some (.cptr x (off + 1)) := by simp [afieldAddr, tfield]
@[simp] theorem fieldAddr56_2 {id off : Nat} : afieldAddr Tryz.prog 56 (.ptr id off) 2 = some (.ptr id (off + 2)) := by simp [afieldAddr, tfield]
@[simp] theorem fieldAddr56_2c {x : AV} {off : Nat} : afieldAddr Tryz.prog 56 (.cptr x off) 2 = some (.cptr x (off + 2)) := by simp [afieldAddr, tfield]
@[simp] theorem fieldAddr56_3 {id off : Nat} : afieldAddr Tryz.prog 56 (.ptr id off) 3 = some (.ptr id (off + 3)) := by simp [afieldAddr, tfield]
@[simp] theorem fieldAddr56_3c {x : AV} {off : Nat} : afieldAddr Tryz.prog 56 (.cptr x off) 3 = some (.cptr x (off + 3)) := by simp [afieldAddr, tfield]
@[simp] theorem fieldAddr56_4 {id off : Nat} : afieldAddr Tryz.prog 56 (.ptr id off) 4 = some (.ptr id (off + 4)) := by simp [afieldAddr, tfield]
@[simp] theorem fieldAddr56_4c {x : AV} {off : Nat} : afieldAddr Tryz.prog 56 (.cptr x off) 4 = some (.cptr x (off + 4)) := by simp [afieldAddr, tfield]
@[simp] theorem fieldAddr56_5 {id off : Nat} : afieldAddr Tryz.prog 56 (.ptr id off) 5 = some (.ptr id (off + 5)) := by simp [afieldAddr, tfield]
@[simp] theorem fieldAddr56_5c {x : AV} {off : Nat} : afieldAddr Tryz.prog 56 (.cptr x off) 5 = some (.cptr x (off + 5)) := by simp [afieldAddr, tfield]
attribute [simp] Tryz.underlying58
@[simp] theorem tagg58 : tagg Tryz.prog 58 = some false := by kernel_rfl
@[simp] theorem tsize58 : tsize Tryz.prog 58 = some 1 := by kernel_rfl
@[simp] theorem tbytes58 : tbytes Tryz.prog 58 = some 8 := by kernel_rfl
@[simp] theorem tzero58 : tzero Tryz.prog 58 = some (.sc (.nilFunc)) := by kernel_rfl
attribute [simp] Tryz.underlying59
@[simp] theorem tagg59 : tagg Tryz.prog 59 = some false := by kernel_rfl
@[simp] theorem tsize59 : tsize Tryz.prog 59 = some 1 := by kernel_rfl
@[simp] theorem tbytes59 : tbytes Tryz.prog 59 = some 8 := by kernel_rfl
@[simp] theorem tzero59 : tzero Tryz.prog 59 = some (.sc (.nilFunc)) := by kernel_rfl
attribute [simp] Tryz.underlying60
@[simp] theorem tagg60 : tagg Tryz.prog 60 = some false := by kernel_rfl
@[simp] theorem tsize60 : tsize Tryz.prog 60 = some 1 := by kernel_rfl
@[simp] theorem tbytes60 : tbytes Tryz.prog 60 = some 8 := by kernel_rfl
@[simp] theorem tzero60 : tzero Tryz.prog 60 = some (.sc (.nilFunc)) := by kernel_rfl
attribute [simp] Tryz.underlying61
@[simp] theorem tagg61 : tagg Tryz.prog 61 = some false := by kernel_rfl
@[simp] theorem tsize61 : tsize Tryz.prog 61 = some 1 := by kernel_rfl
@[simp] theorem tbytes61 : tbytes Tryz.prog 61 = some 8 := by kernel_rfl
@[simp] theorem tzero61 : tzero Tryz.prog 61 = some (.sc (.nilFunc)) := by kernel_rfl
attribute [simp] Tryz.underlying62
@[simp] theorem tagg62 : tagg Tryz.prog 62 = some false := by kernel_rfl
@[simp] theorem tsize62 : tsize Tryz.prog 62 = some 1 := by kernel_rfl
@[simp] theorem tbytes62 : tbytes Tryz.prog 62 = some 8 := by kernel_rfl
@[simp] theorem tzero62 : tzero Tryz.prog 62 = some (.sc (.nilFunc)) := by kernel_rfl
attribute [simp] Tryz.underlying63
@[simp] theorem tagg63 : tagg Tryz.prog 63 = some false := by kernel_rfl
@[simp] theorem tsize63 : tsize Tryz.prog 63 = some 1 := by kernel_rfl
@[simp] theorem tbytes63 : tbytes Tryz.prog 63 = some 24 := by kernel_rfl
@[simp] theorem tzero63 : tzero Tryz.prog 63 = some (.emp 0) := by kernel_rfl
@[simp] theorem telem63 : telem Tryz.prog 63 = some 68 := by kernel_rfl
@[simp] theorem nofz63 : nofz Tryz.prog 63 = false := by kernel_rfl
attribute [simp] Tryz.underlying64
@[simp] theorem tagg64 : tagg Tryz.prog 64 = some false := by kernel_rfl
@[simp] theorem tsize64 : tsize Tryz.prog 64 = some 1 := by kernel_rfl
@[simp] theorem tbytes64 : tbytes Tryz.prog 64 = some 8 := by kernel_rfl
@[simp] theorem tzero64 : tzero Tryz.prog 64 = some (.sc (.pointer Option.none)) := by kernel_rfl
attribute [simp] Tryz.underlying65
@[simp] theorem tagg65 : tagg Tryz.prog 65 = some false := by kernel_rfl
@[simp] theorem tsize65 : tsize Tryz.prog 65 = some 1 := by kernel_rfl
@[simp] theorem tbytes65 : tbytes Tryz.prog 65 = some 8 := by kernel_rfl
@[simp] theorem tzero65 : tzero Tryz.prog 65 = some (.sc (.nilFunc)) := by kernel_rfl
attribute [simp] Tryz.underlying66
@[simp] theorem tagg66 : tagg Tryz.prog 66 = some false := by kernel_rfl
@[simp] theorem tsize66 : tsize Tryz.prog 66 = some 1 := by kernel_rfl
@[simp] theorem tbytes66 : tbytes Tryz.prog 66 = some 24 := by kernel_rfl
@[simp] theorem tzero66 : tzero Tryz.prog 66 = some (.emp 0) := by kernel_rfl
@[simp] theorem telem66 : telem Tryz.prog 66 = some 51 := by kernel_rfl
@[simp] theorem nofz66 : nofz Tryz.prog 66 = false := by kernel_rfl
attribute [simp] Tryz.underlying67
@[simp] theorem tagg67 : tagg Tryz.prog 67 = some true := by kernel_rfl
@[simp] theorem tsize67 : tsize Tryz.prog 67 = some 2 := by kernel_rfl
@[simp] theorem tbytes67 : tbytes Tryz.prog 67 = some 32 := by kernel_rfl
@[simp] theorem tzero67 : tzero Tryz.prog 67 = some (.agg [.sc (.int .i64 0), .emp 0]) := by kernel_rfl
@[simp] theorem fieldAddr67_0 {id off : Nat} : afieldAddr Tryz.prog 67 (.ptr id off) 0 = some (.ptr id (off + 0)) := by simp [afieldAddr, tfield]
@[simp] theorem fieldAddr67_0c {x : AV} {off : Nat} : afieldAddr Tryz.prog 67 (.cptr x off) 0 = some (.cptr x (off + 0)) := by simp [afieldAddr, tfield]
@[simp] theorem fieldAddr67_1 {id off : Nat} : afieldAddr Tryz.prog 67 (.ptr id off) 1 = some (.ptr id (off + 1)) := by simp [afieldAddr, tfield]
@[simp] theorem fieldAddr67_1c {x : AV} {off : Nat} : afieldAddr Tryz.prog 67 (.cptr x off) 1 = some (.cptr x (off + 1)) := by simp [afieldAddr, tfield]
attribute [simp] Tryz.underlying68
@[simp] theorem tagg68 : tagg Tryz.prog 68 = some true := by kernel_rfl
@[simp] theorem tsize68 : tsize Tryz.prog 68 = some 2 := by kernel_rfl
@[simp] theorem tbytes68 : tbytes Tryz.prog 68 = some 32 := by kernel_rfl
@[simp] theorem tzero68 : tzero Tryz.prog 68 = some (.agg [.sc (.int .i64 0), .emp 0]) := by kernel_rfl
@[simp] theorem fieldAddr68_0 {id off : Nat} : afieldAddr Tryz.prog 68 (.ptr id off) 0 = some (.ptr id (off + 0)) := by simp [afieldAddr, tfield]
@[simp] theorem fieldAddr68_0c {x : AV} {off : Nat} : afieldAddr Tryz.prog 68 (.cptr x off) 0 = some (.cptr x (off + 0)) := by simp [afieldAddr, tfield]
@[simp] theorem fieldAddr68_1 {id off : Nat} : afieldAddr Tryz.prog 68 (.ptr id off) 1 = some (.ptr id (off + 1)) := by simp [afieldAddr, tfield]
@[simp] theorem fieldAddr68_1c {x : AV} {off : Nat} : afieldAddr Tryz.prog 68 (.cptr x off) 1 = some (.cptr x (off + 1)) := by simp [afieldAddr, tfield]
attribute [simp] Tryz.underlying69
@[simp] theorem tagg69 : tagg Tryz.prog 69 = some false := by kernel_rfl
@[simp] theorem tsize69 : tsize Tryz.prog 69 = some 1 := by kernel_rfl
@[simp] theorem tbytes69 : tbytes Tryz.prog 69 = some 8 := by kernel_rfl
@[simp] theorem tzero69 : tzero Tryz.prog 69 = some (.sc (.pointer Option.none)) := by kernel_rfl
attribute [simp] Tryz.underlying70
@[simp] theorem tagg70 : tagg Tryz.prog 70 = some true := by kernel_rfl
@[simp] theorem tsize70 : tsize Tryz.prog 70 = some 2 := by kernel_rfl
@[simp] theorem tbytes70 : tbytes Tryz.prog 70 = some 16 := by kernel_rfl
@[simp] theorem tzero70 : tzero Tryz.prog 70 = some (.agg [.sc (.pointer Option.none), .sc (.pointer Option.none)]) := by kernel_rfl
@[simp] theorem fieldAddr70_0 {id off : Nat} : afieldAddr Tryz.prog 70 (.ptr id off) 0 = some (.ptr id (off + 0)) := by simp [afieldAddr, tfield]
@[simp] theorem fieldAddr70_0c {x : AV} {off : Nat} : afieldAddr Tryz.prog 70 (.cptr x off) 0 = some (.cptr x (off + 0)) := by simp [afieldAddr, tfield]
@[simp] theorem fieldAddr70_1 {id off : Nat} : afieldAddr Tryz.prog 70 (.ptr id off) 1 = some (.ptr id (off + 1)) := by simp [afieldAddr, tfield]
@[simp] theorem fieldAddr70_1c {x : AV} {off : Nat} : afieldAddr Tryz.prog 70 (.cptr x off) 1 = some (.cptr x (off + 1)) := by simp [afieldAddr, tfield]
attribute [simp] Tryz.underlying71
@[simp] theorem tagg71 : tagg Tryz.prog 71 = some true := by kernel_rfl
@[simp] theorem tsize71 : tsize Tryz.prog 71 = some 2 := by kernel_rfl
@[simp] theorem tbytes71 : tbytes Tryz.prog 71 = some 16 := by kernel_rfl
@[simp] theorem tzero71 : tzero Tryz.prog 71 = some (.agg [.sc (.pointer Option.none), .sc (.pointer Option.none)]) := by kernel_rfl
@[simp] theorem fieldAddr71_0 {id off : Nat} : afieldAddr Tryz.prog 71 (.ptr id off) 0 = some (.ptr id (off + 0)) := by simp [afieldAddr, tfield]
@[simp] theorem fieldAddr71_0c {x : AV} {off : Nat} : afieldAddr Tryz.prog 71 (.cptr x off) 0 = some (.cptr x (off + 0)) := by simp [afieldAddr, tfield]
@[simp] theorem fieldAddr71_1 {id off : Nat} : afieldAddr Tryz.prog 71 (.ptr id off) 1 = some (.ptr id (off + 1)) := by simp [afieldAddr, tfield]
@[simp] theorem fieldAddr71_1c {x : AV} {off : Nat} : afieldAddr Tryz.prog 71 (.cptr x off) 1 = some (.cptr x (off + 1)) := by simp [afieldAddr, tfield]
attribute [simp] Tryz.underlying72
@[simp] theorem tagg72 : tagg Tryz.prog 72 = some false := by kernel_rfl
@[simp] theorem tsize72 : tsize Tryz.prog 72 = some 1 := by kernel_rfl
@[simp] theorem tbytes72 : tbytes Tryz.prog 72 = some 8 := by kernel_rfl
@[simp] theorem tzero72 : tzero Tryz.prog 72 = some (.sc (.nilFunc)) := by kernel_rfl
attribute [simp] Tryz.underlying73
@[simp] theorem tagg73 : tagg Tryz.prog 73 = some false := by kernel_rfl
@[simp] theorem tsize73 : tsize Tryz.prog 73 = some 1 := by kernel_rfl
@[simp] theorem tbytes73 : tbytes Tryz.prog 73 = some 8 := by kernel_rfl
@[simp] theorem tzero73 : tzero Tryz.prog 73 = some (.sc (.nilFunc)) := by kernel_rfl
attribute [simp] Tryz.underlying74
@[simp] theorem tagg74 : tagg Tryz.prog 74 = some false := by kernel_rfl
@[simp] theorem tsize74 : tsize Tryz.prog 74 = some 1 := by kernel_rfl
@[simp] theorem tbytes74 : tbytes Tryz.prog 74 = some 24 := by kernel_rfl
@[simp] theorem tzero74 : tzero Tryz.prog 74 = some (.emp 0) := by kernel_rfl
@[simp] theorem telem74 : telem Tryz.prog 74 = some 78 := by kernel_rfl
@[simp] theorem nofz74 : nofz Tryz.prog 74 = true := by kernel_rfl
attribute [simp] Tryz.underlying75
@[simp] theorem tagg75 : tagg Tryz.prog 75 = some false := by kernel_rfl
@[simp] theorem tsize75 : tsize Tryz.prog 75 = some 1 := by kernel_rfl
@[simp] theorem tbytes75 : tbytes Tryz.prog 75 = some 8 := by kernel_rfl
@[simp] theorem tzero75 : tzero Tryz.prog 75 = some (.sc (.nilFunc)) := by kernel_rfl
attribute [simp] Tryz.underlying76
@[simp] theorem tagg76 : tagg Tryz.prog 76 = some false := by kernel_rfl
@[simp] theorem tsize76 : tsize Tryz.prog 76 = some 1 := by kernel_rfl
@[simp] theorem tbytes76 : tbytes Tryz.prog 76 = some 24 := by kernel_rfl
@[simp] theorem tzero76 : tzero Tryz.prog 76 = some (.emp 0) := by kernel_rfl
@[simp] theorem telem76 : telem Tryz.prog 76 = some 5 := by kernel_rfl
@[simp] theorem nofz76 : nofz Tryz.prog 76 = false := by kernel_rfl
attribute [simp] Tryz.underlying77
@[simp] theorem tagg77 : tagg Tryz.prog 77 = some true := by kernel_rfl
@[simp] theorem tsize77 : tsize Tryz.prog 77 = some 4 := by kernel_rfl
@[simp] theorem tbytes77 : tbytes Tryz.prog 77 = some 64 := by kernel_rfl
@[simp] theorem tzero77 : tzero Tryz.prog 77 = some (.agg [.sc (.int .i64 0), .sc (.int .i64 0), .emp 0, .emp 0]) := by kernel_rfl
@[simp] theorem fieldAddr77_0 {id off : Nat} : afieldAddr Tryz.prog 77 (.ptr id off) 0 = some (.ptr id (off + 0)) := by simp [afieldAddr, tfield]
@[simp] theorem fieldAddr77_0c {x : AV} {off : Nat} : afieldAddr Tryz.prog 77 (.cptr x off) 0 = some (.cptr x (off + 0)) := by simp [afieldAddr, tfield]
@[simp] theorem fieldAddr77_1 {id off : Nat} : afieldAddr Tryz.prog 77 (.ptr id off) 1 = some (.ptr id (off + 1)) := by simp [afieldAddr, tfield]
@[simp] theorem fieldAddr77_1c {x : AV} {off : Nat} : afieldAddr Tryz.prog 77 (.cptr x off) 1 = some (.cptr x (off + 1)) := by simp [afieldAddr, tfield]
@[simp] theorem fieldAddr77_2 {id off : Nat} : afieldAddr Tryz.prog 77 (.ptr id off) 2 = some (.ptr id (off + 2)) := by simp [afieldAddr, tfield]
@[simp] theorem fieldAddr77_2c {x : AV} {off : Nat} : afieldAddr Tryz.prog 77 (.cptr x off) 2 = some (.cptr x (off + 2)) := by simp [afieldAddr, tfield]
@[simp] theorem fieldAddr77_3 {id off : Nat} : afieldAddr Tryz.prog 77 (.ptr id off) 3 = some (.ptr id (off + 3)) := by simp [afieldAddr, tfield]
@[simp] theorem fieldAddr77_3c {x : AV} {off : Nat} : afieldAddr Tryz.prog 77 (.cptr x off) 3 = some (.cptr x (off + 3)) := by simp [afieldAddr, tfield]
attribute [simp] Tryz.underlying78
@[simp] theorem tagg78 : tagg Tryz.prog 78 = some true := by kernel_rfl
@[simp] theorem tsize78 : tsize Tryz.prog 78 = some 4 := by kernel_rfl
@[simp] theorem tbytes78 : tbytes Tryz.prog 78 = some 64 := by kernel_rfl
@[simp] theorem tzero78 : tzero Tryz.prog 78 = some (.agg [.sc (.int .i64 0), .sc (.int .i64 0), .emp 0, .emp 0]) := by kernel_rfl
@[simp] theorem fieldAddr78_0 {id off : Nat} : afieldAddr Tryz.prog 78 (.ptr id off) 0 = some (.ptr id (off + 0)) := by simp [afieldAddr, tfield]
@[simp] theorem fieldAddr78_0c {x : AV} {off : Nat} : afieldAddr Tryz.prog 78 (.cptr x off) 0 = some (.cptr x (off + 0)) := by simp [afieldAddr, tfield]
@[simp] theorem fieldAddr78_1 {id off : Nat} : afieldAddr Tryz.prog 78 (.ptr id off) 1 = some (.ptr id (off + 1)) := by simp [afieldAddr, tfield]
@[simp] theorem fieldAddr78_1c {x : AV} {off : Nat} : afieldAddr Tryz.prog 78 (.cptr x off) 1 = some (.cptr x (off + 1)) := by simp [afieldAddr, tfield]
@[simp] theorem fieldAddr78_2 {id off : Nat} : afieldAddr Tryz.prog 78 (.ptr id off) 2 = some (.ptr id (off + 2)) := by simp [afieldAddr, tfield]
@[simp] theorem fieldAddr78_2c {x : AV} {off : Nat} : afieldAddr Tryz.prog 78 (.cptr x off) 2 = some (.cptr x (off + 2)) := by simp [afieldAddr, tfield]
@[simp] theorem fieldAddr78_3 {id off : Nat} : afieldAddr Tryz.prog 78 (.ptr id off) 3 = some (.ptr id (off + 3)) := by simp [afieldAddr, tfield]
@[simp] theorem fieldAddr78_3c {x : AV} {off : Nat} : afieldAddr Tryz.prog 78 (.cptr x off) 3 = some (.cptr x (off + 3)) := by simp [afieldAddr, tfield]
attribute [simp] Tryz.underlying79
@[simp] theorem tagg79 : tagg Tryz.prog 79 = some false := by kernel_rfl
@[simp] theorem tsize79 : tsize Tryz.prog 79 = some 1 := by kernel_rfl
@[simp] theorem tbytes79 : tbytes Tryz.prog 79 = some 8 := by kernel_rfl
@[simp] theorem tzero79 : tzero Tryz.prog 79 = some (.sc (.nilFunc)) := by kernel_rfl
attribute [simp] Tryz.underlying80
@[simp] theorem tagg80 : tagg Tryz.prog 80 = some true := by kernel_rfl
@[simp] theorem tsize80 : tsize Tryz.prog 80 = some 3 := by kernel_rfl
@[simp] theorem tbytes80 : tbytes Tryz.prog 80 = some 32 := by kernel_rfl
@[simp] theorem tzero80 : tzero Tryz.prog 80 = some (.agg [.sc (.string ⟨⟨[]⟩⟩), .sc (.int .i64 0), .sc (.int .i64 0)]) := by kernel_rfl
@[simp] theorem fieldAddr80_0 {id off : Nat} : afieldAddr Tryz.prog 80 (.ptr id off) 0 = some (.ptr id (off + 0)) := by simp [afieldAddr, tfield]
@[simp] theorem fieldAddr80_0c {x : AV} {off : Nat} : afieldAddr Tryz.prog 80 (.cptr x off) 0 = some (.cptr x (off + 0)) := by simp [afieldAddr, tfield]
@[simp] theorem fieldAddr80_1 {id off : Nat} : afieldAddr Tryz.prog 80 (.ptr id off) 1 = some (.ptr id (off + 1)) := by simp [afieldAddr, tfield]
@[simp] theorem fieldAddr80_1c {x : AV} {off : Nat} : afieldAddr Tryz.prog 80 (.cptr x off) 1 = some (.cptr x (off + 1)) := by simp [afieldAddr, tfield]
@[simp] theorem fieldAddr80_2 {id off : Nat} : afieldAddr Tryz.prog 80 (.ptr id off) 2 = some (.ptr id (off + 2)) := by simp [afieldAddr, tfield]
@[simp] theorem fieldAddr80_2c {x : AV} {off : Nat} : afieldAddr Tryz.prog 80 (.cptr x off) 2 = some (.cptr x (off + 2)) := by simp [afieldAddr, tfield]
attribute [simp] Tryz.underlying81
@[simp] theorem tagg81 : tagg Tryz.prog 81 = some true := by kernel_rfl
@[simp] theorem tsize81 : tsize Tryz.prog 81 = some 3 := by kernel_rfl
@[simp] theorem tbytes81 : tbytes Tryz.prog 81 = some 32 := by kernel_rfl
@[simp] theorem tzero81 : tzero Tryz.prog 81 = some (.agg [.sc (.string ⟨⟨[]⟩⟩), .sc (.int .i64 0), .sc (.int .i64 0)]) := by kernel_rfl
@[simp] theorem fieldAddr81_0 {id off : Nat} : afieldAddr Tryz.prog 81 (.ptr id off) 0 = some (.ptr id (off + 0)) := by simp [afieldAddr, tfield]
@[simp] theorem fieldAddr81_0c {x : AV} {off : Nat} : afieldAddr Tryz.prog 81 (.cptr x off) 0 = some (.cptr x (off + 0)) := by simp [afieldAddr, tfield]
@[simp] theorem fieldAddr81_1 {id off : Nat} : afieldAddr Tryz.prog 81 (.ptr id off) 1 = some (.ptr id (off + 1)) := by simp [afieldAddr, tfield]
@[simp] theorem fieldAddr81_1c {x : AV} {off : Nat} : afieldAddr Tryz.prog 81 (.cptr x off) 1 = some (.cptr x (off + 1)) := by simp [afieldAddr, tfield]
@[simp] theorem fieldAddr81_2 {id off : Nat} : afieldAddr Tryz.prog 81 (.ptr id off) 2 = some (.ptr id (off + 2)) := by simp [afieldAddr, tfield]
@[simp] theorem fieldAddr81_2c {x : AV} {off : Nat} : afieldAddr Tryz.prog 81 (.cptr x off) 2 = some (.cptr x (off + 2)) := by simp [afieldAddr, tfield]
attribute [simp] Tryz.underlying83
@[simp] theorem tagg83 : tagg Tryz.prog 83 = some false := by kernel_rfl
@[simp] theorem tsize83 : tsize Tryz.prog 83 = some 1 := by kernel_rfl
@[simp] theorem tbytes83 : tbytes Tryz.prog 83 = some 8 := by kernel_rfl
@[simp] theorem tzero83 : tzero Tryz.prog 83 = some (.sc (.nilFunc)) := by kernel_rfl
attribute [simp] Tryz.underlying84
@[simp] theorem tagg84 : tagg Tryz.prog 84 = some true := by kernel_rfl
@[simp] theorem tsize84 : tsize Tryz.prog 84 = some 15 := by kernel_rfl
@[simp] theorem tbytes84 : tbytes Tryz.prog 84 = some 240 := by kernel_rfl
@[simp] theorem tzero84 : tzero Tryz.prog 84 = some (.agg [.sc (.string ⟨⟨[]⟩⟩), .sc (.string ⟨⟨[]⟩⟩), .sc (.string ⟨⟨[]⟩⟩), .sc (.string ⟨⟨[]⟩⟩), .sc (.string ⟨⟨[]⟩⟩), .sc (.string ⟨⟨[]⟩⟩), .sc (.string ⟨⟨[]⟩⟩), .sc (.string ⟨⟨[]⟩⟩), .sc (.string ⟨⟨[]⟩⟩), .sc (.string ⟨⟨[]⟩⟩), .sc (.string ⟨⟨[]⟩⟩), .sc (.string ⟨⟨[]⟩⟩), .sc (.string ⟨⟨[]⟩⟩), .sc (.string ⟨⟨[]⟩⟩), .sc (.string ⟨⟨[]⟩⟩)]) := by kernel_rfl
@[simp] theorem tarr84 : tarr Tryz.prog 84 = some (15, 9) := by kernel_rfl
attribute [simp] Tryz.underlying85
@[simp] theorem tagg85 : tagg Tryz.prog 85 = some false := by kernel_rfl
@[simp] theorem tsize85 : tsize Tryz.prog 85 = some 1 := by kernel_rfl
@[simp] theorem tbytes85 : tbytes Tryz.prog 85 = some 24 := by kernel_rfl
@[simp] theorem tzero85 : tzero Tryz.prog 85 = some (.emp 0) := by kernel_rfl
@[simp] theorem telem85 : telem Tryz.prog 85 = some 9 := by kernel_rfl
@[simp] theorem nofz85 : nofz Tryz.prog 85 = false := by kernel_rfl
attribute [simp] Tryz.underlying86
@[simp] theorem tagg86 : tagg Tryz.prog 86 = some false := by kernel_rfl
@[simp] theorem tsize86 : tsize Tryz.prog 86 = some 1 := by kernel_rfl
@[simp] theorem tbytes86 : tbytes Tryz.prog 86 = some 8 := by kernel_rfl
@[simp] theorem tzero86 : tzero Tryz.prog 86 = some (.sc (.nilFunc)) := by kernel_rfl
attribute [simp] Tryz.underlying87
@[simp] theorem tagg87 : tagg Tryz.prog 87 = some true := by kernel_rfl
@[simp] theorem tsize87 : tsize Tryz.prog 87 = some 255 := by kernel_rfl
@[simp] theorem tbytes87 : tbytes Tryz.prog 87 = some 2720 := by kernel_rfl
@[simp] theorem tarr87 : tarr Tryz.prog 87 = some (85, 81) := by kernel_rfl
attribute [simp] Tryz.underlying88
@[simp] theorem tagg88 : tagg Tryz.prog 88 = some false := by kernel_rfl
@[simp] theorem tsize88 : tsize Tryz.prog 88 = some 1 := by kernel_rfl
@[simp] theorem tbytes88 : tbytes Tryz.prog 88 = some 8 := by kernel_rfl
@[simp] theorem tzero88 : tzero Tryz.prog 88 = some (.sc (.nilFunc)) := by kernel_rfl
attribute [simp] Tryz.underlying89
@[simp] theorem tagg89 : tagg Tryz.prog 89 = some false := by kernel_rfl
@[simp] theorem tsize89 : tsize Tryz.prog 89 = some 1 := by kernel_rfl
@[simp] theorem tbytes89 : tbytes Tryz.prog 89 = some 8 := by kernel_rfl
@[simp] theorem tzero89 : tzero Tryz.prog 89 = some (.sc (.map Option.none)) := by kernel_rfl
@[simp] theorem tmap89 : tmap Tryz.prog 89 = some (9, 3) := by kernel_rfl
attribute [simp] Tryz.underlying90
@[simp] theorem tagg90 : tagg Tryz.prog 90 = some true := by kernel_rfl
@[simp] theorem tsize90 : tsize Tryz.prog 90 = some 4 := by kernel_rfl
@[simp] theorem tbytes90 : tbytes Tryz.prog 90 = some 64 := by kernel_rfl
@[simp] theorem tzero90 : tzero Tryz.prog 90 = some (.agg [.sc (.int .i64 0), .emp 0, .emp 0, .sc (.map Option.none)]) := by kernel_rfl
@[simp] theorem fieldAddr90_0 {id off : Nat} : afieldAddr Tryz.prog 90 (.ptr id off) 0 = some (.ptr id (off + 0)) := by simp [afieldAddr, tfield]
@[simp] theorem fieldAddr90_0c {x : AV} {off : Nat} : afieldAddr Tryz.prog 90 (.cptr x off) 0 = some (.cptr x (off + 0)) := by simp [afieldAddr, tfield]
@[simp] theorem fieldAddr90_1 {id off : Nat} : afieldAddr Tryz.prog 90 (.ptr id off) 1 = some (.ptr id (off + 1)) := by simp [afieldAddr, tfield]
@[simp] theorem fieldAddr90_1c {x : AV} {off : Nat} : afieldAddr Tryz.prog 90 (.cptr x off) 1 = some (.cptr x (off + 1)) := by simp [afieldAddr, tfield]
@[simp] theorem fieldAddr90_2 {id off : Nat} : afieldAddr Tryz.prog 90 (.ptr id off) 2 = some (.ptr id (off + 2)) := by simp [afieldAddr, tfield]
@[simp] theorem fieldAddr90_2c {x : AV} {off : Nat} : afieldAddr Tryz.prog 90 (.cptr x off) 2 = some (.cptr x (off + 2)) := by simp [afieldAddr, tfield]
@[simp] theorem fieldAddr90_3 {id off : Nat} : afieldAddr Tryz.prog 90 (.ptr id off) 3 = some (.ptr id (off + 3)) := by simp [afieldAddr, tfield]
@[simp] theorem fieldAddr90_3c {x : AV} {off : Nat} : afieldAddr Tryz.prog 90 (.cptr x off) 3 = some (.cptr x (off + 3)) := by simp [afieldAddr, tfield]
attribute [simp] Tryz.underlying91
@[simp] theorem tagg91 : tagg Tryz.prog 91 = some true := by kernel_rfl
@[simp] theorem tsize91 : tsize Tryz.prog 91 = some 4 := by kernel_rfl
@[simp] theorem tbytes91 : tbytes Tryz.prog 91 = some 64 := by kernel_rfl
@[simp] theorem tzero91 : tzero Tryz.prog 91 = some (.agg [.sc (.int .i64 0), .emp 0, .emp 0, .sc (.map Option.none)]) := by kernel_rfl
@[simp] theorem fieldAddr91_0 {id off : Nat} : afieldAddr Tryz.prog 91 (.ptr id off) 0 = some (.ptr id (off + 0)) := by simp [afieldAddr, tfield]
@[simp] theorem fieldAddr91_0c {x : AV} {off : Nat} : afieldAddr Tryz.prog 91 (.cptr x off) 0 = some (.cptr x (off + 0)) := by simp [afieldAddr, tfield]
@[simp] theorem fieldAddr91_1 {id off : Nat} : afieldAddr Tryz.prog 91 (.ptr id off) 1 = some (.ptr id (off + 1)) := by simp [afieldAddr, tfield]
@[simp] theorem fieldAddr91_1c {x : AV} {off : Nat} : afieldAddr Tryz.prog 91 (.cptr x off) 1 = some (.cptr x (off + 1)) := by simp [afieldAddr, tfield]
@[simp] theorem fieldAddr91_2 {id off : Nat} : afieldAddr Tryz.prog 91 (.ptr id off) 2 = some (.ptr id (off + 2)) := by simp [afieldAddr, tfield]
@[simp] theorem fieldAddr91_2c {x : AV} {off : Nat} : afieldAddr Tryz.prog 91 (.cptr x off) 2 = some (.cptr x (off + 2)) := by simp [afieldAddr, tfield]
@[simp] theorem fieldAddr91_3 {id off : Nat} : afieldAddr Tryz.prog 91 (.ptr id off) 3 = some (.ptr id (off + 3)) := by simp [afieldAddr, tfield]
@[simp] theorem fieldAddr91_3c {x : AV} {off : Nat} : afieldAddr Tryz.prog 91 (.cptr x off) 3 = some (.cptr x (off + 3)) := by simp [afieldAddr, tfield]
attribute [simp] Tryz.underlying92
@[simp] theorem tagg92 : tagg Tryz.prog 92 = some false := by kernel_rfl
@[simp] theorem tsize92 : tsize Tryz.prog 92 = some 1 := by kernel_rfl
@[simp] theorem tbytes92 : tbytes Tryz.prog 92 = some 8 := by kernel_rfl
@[simp] theorem tzero92 : tzero Tryz.prog 92 = some (.sc (.nilFunc)) := by kernel_rfl
attribute [simp] Tryz.underlying93
@[simp] theorem tagg93 : tagg Tryz.prog 93 = some false := by kernel_rfl
@[simp] theorem tsize93 : tsize Tryz.prog 93 = some 1 := by kernel_rfl
@[simp] theorem tbytes93 : tbytes Tryz.prog 93 = some 8 := by kernel_rfl
@[simp] theorem tzero93 : tzero Tryz.prog 93 = some (.sc (.nilFunc)) := by kernel_rfl
attribute [simp] Tryz.underlying94
@[simp] theorem tagg94 : tagg Tryz.prog 94 = some false := by kernel_rfl
@[simp] theorem tsize94 : tsize Tryz.prog 94 = some 1 := by kernel_rfl
@[simp] theorem tbytes94 : tbytes Tryz.prog 94 = some 8 := by kernel_rfl
@[simp] theorem tzero94 : tzero Tryz.prog 94 = some (.sc (.pointer Option.none)) := by kernel_rfl
attribute [simp] Tryz.underlying95
@[simp] theorem tagg95 : tagg Tryz.prog 95 = some true := by kernel_rfl
@[simp] theorem tsize95 : tsize Tryz.prog 95 = some 4 := by kernel_rfl
@[simp] theorem tbytes95 : tbytes Tryz.prog 95 = some 48 := by kernel_rfl
@[simp] theorem tzero95 : tzero Tryz.prog 95 = some (.agg [.sc (.pointer Option.none), .sc (.int .i64 0), .emp 0, .sc (.int .i64 0)]) := by kernel_rfl
@[simp] theorem fieldAddr95_0 {id off : Nat} : afieldAddr Tryz.prog 95 (.ptr id off) 0 = some (.ptr id (off + 0)) := by simp [afieldAddr, tfield]
@[simp] theorem fieldAddr95_0c {x : AV} {off : Nat} : afieldAddr Tryz.prog 95 (.cptr x off) 0 = some (.cptr x (off + 0)) := by simp [afieldAddr, tfield]
@[simp] theorem fieldAddr95_1 {id off : Nat} : afieldAddr Tryz.prog 95 (.ptr id off) 1 = some (.ptr id (off + 1)) := by simp [afieldAddr, tfield]
@[simp] theorem fieldAddr95_1c {x : AV} {off : Nat} : afieldAddr Tryz.prog 95 (.cptr x off) 1 = some (.cptr x (off + 1)) := by simp [afieldAddr, tfield]
@[simp] theorem fieldAddr95_2 {id off : Nat} : afieldAddr Tryz.prog 95 (.ptr id off) 2 = some (.ptr id (off + 2)) := by simp [afieldAddr, tfield]
@[simp] theorem fieldAddr95_2c {x : AV} {off : Nat} : afieldAddr Tryz.prog 95 (.cptr x off) 2 = some (.cptr x (off + 2)) := by simp [afieldAddr, tfield]
@[simp] theorem fieldAddr95_3 {id off : Nat} : afieldAddr Tryz.prog 95 (.ptr id off) 3 = some (.ptr id (off + 3)) := by simp [afieldAddr, tfield]
@[simp] theorem fieldAddr95_3c {x : AV} {off : Nat} : afieldAddr Tryz.prog 95 (.cptr x off) 3 = some (.cptr x (off + 3)) := by simp [afieldAddr, tfield]
attribute [simp] Tryz.underlying96
@[simp] theorem tagg96 : tagg Tryz.prog 96 = some true := by kernel_rfl
@[simp] theorem tsize96 : tsize Tryz.prog 96 = some 4 := by kernel_rfl
@[simp] theorem tbytes96 : tbytes Tryz.prog 96 = some 48 := by kernel_rfl
@[simp] theorem tzero96 : tzero Tryz.prog 96 = some (.agg [.sc (.pointer Option.none), .sc (.int .i64 0), .emp 0, .sc (.int .i64 0)]) := by kernel_rfl
@[simp] theorem fieldAddr96_0 {id off : Nat} : afieldAddr Tryz.prog 96 (.ptr id off) 0 = some (.ptr id (off + 0)) := by simp [afieldAddr, tfield]
@[simp] theorem fieldAddr96_0c {x : AV} {off : Nat} : afieldAddr Tryz.prog 96 (.cptr x off) 0 = some (.cptr x (off + 0)) := by simp [afieldAddr, tfield]
@[simp] theorem fieldAddr96_1 {id off : Nat} : afieldAddr Tryz.prog 96 (.ptr id off) 1 = some (.ptr id (off + 1)) := by simp [afieldAddr, tfield]
@[simp] theorem fieldAddr96_1c {x : AV} {off : Nat} : afieldAddr Tryz.prog 96 (.cptr x off) 1 = some (.cptr x (off + 1)) := by simp [afieldAddr, tfield]
@[simp] theorem fieldAddr96_2 {id off : Nat} : afieldAddr Tryz.prog 96 (.ptr id off) 2 = some (.ptr id (off + 2)) := by simp [afieldAddr, tfield]
@[simp] theorem fieldAddr96_2c {x : AV} {off : Nat} : afieldAddr Tryz.prog 96 (.cptr x off) 2 = some (.cptr x (off + 2)) := by simp [afieldAddr, tfield]
@[simp] theorem fieldAddr96_3 {id off : Nat} : afieldAddr Tryz.prog 96 (.ptr id off) 3 = some (.ptr id (off + 3)) := by simp [afieldAddr, tfield]
@[simp] theorem fieldAddr96_3c {x : AV} {off : Nat} : afieldAddr Tryz.prog 96 (.cptr x off) 3 = some (.cptr x (off + 3)) := by simp [afieldAddr, tfield]
attribute [simp] Tryz.underlying97
@[simp] theorem tagg97 : tagg Tryz.prog 97 = some false := by kernel_rfl
@[simp] theorem tsize97 : tsize Tryz.prog 97 = some 1 := by kernel_rfl
@[simp] theorem tbytes97 : tbytes Tryz.prog 97 = some 8 := by kernel_rfl
@[simp] theorem tzero97 : tzero Tryz.prog 97 = some (.sc (.nilFunc)) := by kernel_rfl
attribute [simp] Tryz.underlying98
@[simp] theorem tagg98 : tagg Tryz.prog 98 = some false := by kernel_rfl
@[simp] theorem tsize98 : tsize Tryz.prog 98 = some 1 := by kernel_rfl
@[simp] theorem tbytes98 : tbytes Tryz.prog 98 = some 8 := by kernel_rfl
@[simp] theorem tzero98 : tzero Tryz.prog 98 = some (.sc (.nilFunc)) := by kernel_rfl
attribute [simp] Tryz.underlying99
@[simp] theorem tagg99 : tagg Tryz.prog 99 = some false := by kernel_rfl
@[simp] theorem tsize99 : tsize Tryz.prog 99 = some 1 := by kernel_rfl
@[simp] theorem tbytes99 : tbytes Tryz.prog 99 = some 8 := by kernel_rfl
@[simp] theorem tzero99 : tzero Tryz.prog 99 = some (.sc (.nilFunc)) := by kernel_rfl
attribute [simp] Tryz.underlying100
@[simp] theorem tagg100 : tagg Tryz.prog 100 = some false := by kernel_rfl
@[simp] theorem tsize100 : tsize Tryz.prog 100 = some 1 := by kernel_rfl
@[simp] theorem tbytes100 : tbytes Tryz.prog 100 = some 8 := by kernel_rfl
@[simp] theorem tzero100 : tzero Tryz.prog 100 = some (.sc (.nilFunc)) := by kernel_rfl
attribute [simp] Tryz.underlying101
@[simp] theorem tagg101 : tagg Tryz.prog 101 = some false := by kernel_rfl
@[simp] theorem tsize101 : tsize Tryz.prog 101 = some 1 := by kernel_rfl
@[simp] theorem tbytes101 : tbytes Tryz.prog 101 = some 8 := by kernel_rfl
@[simp] theorem tzero101 : tzero Tryz.prog 101 = some (.sc (.pointer Option.none)) := by kernel_rfl
attribute [simp] Tryz.underlying102
@[simp] theorem tagg102 : tagg Tryz.prog 102 = some true := by kernel_rfl
@[simp] theorem tsize102 : tsize Tryz.prog 102 = some 2 := by kernel_rfl
@[simp] theorem tbytes102 : tbytes Tryz.prog 102 = some 16 := by kernel_rfl
@[simp] theorem tzero102 : tzero Tryz.prog 102 = some (.agg [.sc (.pointer Option.none), .sc (.int .i64 0)]) := by kernel_rfl
@[simp] theorem fieldAddr102_0 {id off : Nat} : afieldAddr Tryz.prog 102 (.ptr id off) 0 = some (.ptr id (off + 0)) := by simp [afieldAddr, tfield]
@[simp] theorem fieldAddr102_0c {x : AV} {off : Nat} : afieldAddr Tryz.prog 102 (.cptr x off) 0 = some (.cptr x (off + 0)) := by simp [afieldAddr, tfield]
@[simp] theorem fieldAddr102_1 {id off : Nat} : afieldAddr Tryz.prog 102 (.ptr id off) 1 = some (.ptr id (off + 1)) := by simp [afieldAddr, tfield]
@[simp] theorem fieldAddr102_1c {x : AV} {off : Nat} : afieldAddr Tryz.prog 102 (.cptr x off) 1 = some (.cptr x (off + 1)) := by simp [afieldAddr, tfield]
attribute [simp] Tryz.underlying103
@[simp] theorem tagg103 : tagg Tryz.prog 103 = some true := by kernel_rfl
@[simp] theorem tsize103 : tsize Tryz.prog 103 = some 2 := by kernel_rfl
@[simp] theorem tbytes103 : tbytes Tryz.prog 103 = some 16 := by kernel_rfl
@[simp] theorem tzero103 : tzero Tryz.prog 103 = some (.agg [.sc (.pointer Option.none), .sc (.int .i64 0)]) := by kernel_rfl
@[simp] theorem fieldAddr103_0 {id off : Nat} : afieldAddr Tryz.prog 103 (.ptr id off) 0 = some (.ptr id (off + 0)) := by simp [afieldAddr, tfield]
@[simp] theorem fieldAddr103_0c {x : AV} {off : Nat} : afieldAddr Tryz.prog 103 (.cptr x off) 0 = some (.cptr x (off + 0)) := by simp [afieldAddr, tfield]
@[simp] theorem fieldAddr103_1 {id off : Nat} : afieldAddr Tryz.prog 103 (.ptr id off) 1 = some (.ptr id (off + 1)) := by simp [afieldAddr, tfield]
@[simp] theorem fieldAddr103_1c {x : AV} {off : Nat} : afieldAddr Tryz.prog 103 (.cptr x off) 1 = some (.cptr x (off + 1)) := by simp [afieldAddr, tfield]
attribute [simp] Tryz.underlying105
@[simp] theorem tagg105 : tagg Tryz.prog 105 = some false := by kernel_rfl
@[simp] theorem tsize105 : tsize Tryz.prog 105 = some 1 := by kernel_rfl
@[simp] theorem tbytes105 : tbytes Tryz.prog 105 = some 8 := by kernel_rfl
@[simp] theorem tzero105 : tzero Tryz.prog 105 = some (.sc (.nilFunc)) := by kernel_rfl
attribute [simp] Tryz.underlying106
@[simp] theorem tagg106 : tagg Tryz.prog 106 = some false := by kernel_rfl
@[simp] theorem tsize106 : tsize Tryz.prog 106 = some 1 := by kernel_rfl
@[simp] theorem tbytes106 : tbytes Tryz.prog 106 = some 8 := by kernel_rfl
@[simp] theorem tzero106 : tzero Tryz.prog 106 = some (.sc (.nilFunc)) := by kernel_rfl
attribute [simp] Tryz.underlying108
@[simp] theorem tagg108 : tagg Tryz.prog 108 = some false := by kernel_rfl
@[simp] theorem tsize108 : tsize Tryz.prog 108 = some 1 := by kernel_rfl
@[simp] theorem tbytes108 : tbytes Tryz.prog 108 = some 8 := by kernel_rfl
@[simp] theorem tzero108 : tzero Tryz.prog 108 = some (.sc (.nilFunc)) := by kernel_rfl
attribute [simp] Tryz.underlying109
@[simp] theorem tagg109 : tagg Tryz.prog 109 = some false := by kernel_rfl
@[simp] theorem tsize109 : tsize Tryz.prog 109 = some 1 := by kernel_rfl
@[simp] theorem tbytes109 : tbytes Tryz.prog 109 = some 8 := by kernel_rfl
@[simp] theorem tzero109 : tzero Tryz.prog 109 = some (.sc (.nilFunc)) := by kernel_rfl
attribute [simp] Tryz.underlying110
@[simp] theorem tagg110 : tagg Tryz.prog 110 = some false := by kernel_rfl
@[simp] theorem tsize110 : tsize Tryz.prog 110 = some 1 := by kernel_rfl
@[simp] theorem tbytes110 : tbytes Tryz.prog 110 = some 8 := by kernel_rfl
@[simp] theorem tzero110 : tzero Tryz.prog 110 = some (.sc (.nilFunc)) := by kernel_rfl
attribute [simp] Tryz.underlying111
@[simp] theorem tagg111 : tagg Tryz.prog 111 = some false := by kernel_rfl
@[simp] theorem tsize111 : tsize Tryz.prog 111 = some 1 := by kernel_rfl
@[simp] theorem tbytes111 : tbytes Tryz.prog 111 = some 8 := by kernel_rfl
@[simp] theorem tzero111 : tzero Tryz.prog 111 = some (.sc (.nilFunc)) := by kernel_rfl
attribute [simp] Tryz.underlying112
@[simp] theorem tagg112 : tagg Tryz.prog 112 = some false := by kernel_rfl
@[simp] theorem tsize112 : tsize Tryz.prog 112 = some 1 := by kernel_rfl
@[simp] theorem tbytes112 : tbytes Tryz.prog 112 = some 8 := by kernel_rfl
@[simp] theorem tzero112 : tzero Tryz.prog 112 = some (.sc (.nilFunc)) := by kernel_rfl
attribute [simp] Tryz.underlying113
@[simp] theorem tagg113 : tagg Tryz.prog 113 = some true := by kernel_rfl
@[simp] theorem tsize113 : tsize Tryz.prog 113 = some 3 := by kernel_rfl
@[simp] theorem tbytes113 : tbytes Tryz.prog 113 = some 56 := by kernel_rfl
@[simp] theorem tzero113 : tzero Tryz.prog 113 = some (.agg [.sc (.int .i64 0), .emp 0, .emp 0]) := by kernel_rfl
@[simp] theorem fieldAddr113_0 {id off : Nat} : afieldAddr Tryz.prog 113 (.ptr id off) 0 = some (.ptr id (off + 0)) := by simp [afieldAddr, tfield]
@[simp] theorem fieldAddr113_0c {x : AV} {off : Nat} : afieldAddr Tryz.prog 113 (.cptr x off) 0 = some (.cptr x (off + 0)) := by simp [afieldAddr, tfield]
@[simp] theorem fieldAddr113_1 {id off : Nat} : afieldAddr Tryz.prog 113 (.ptr id off) 1 = some (.ptr id (off + 1)) := by simp [afieldAddr, tfield]
@[simp] theorem fieldAddr113_1c {x : AV} {off : Nat} : afieldAddr Tryz.prog 113 (.cptr x off) 1 = some (.cptr x (off + 1)) := by simp [afieldAddr, tfield]
@[simp] theorem fieldAddr113_2 {id off : Nat} : afieldAddr Tryz.prog 113 (.ptr id off) 2 = some (.ptr id (off + 2)) := by simp [afieldAddr, tfield]
@[simp] theorem fieldAddr113_2c {x : AV} {off : Nat} : afieldAddr Tryz.prog 113 (.cptr x off) 2 = some (.cptr x (off + 2)) := by simp [afieldAddr, tfield]
attribute [simp] Tryz.underlying114
@[simp] theorem tagg114 : tagg Tryz.prog 114 = some true := by kernel_rfl
@[simp] theorem tsize114 : tsize Tryz.prog 114 = some 3 := by kernel_rfl
@[simp] theorem tbytes114 : tbytes Tryz.prog 114 = some 56 := by kernel_rfl
@[simp] theorem tzero114 : tzero Tryz.prog 114 = some (.agg [.sc (.int .i64 0), .emp 0, .emp 0]) := by kernel_rfl
@[simp] theorem fieldAddr114_0 {id off : Nat} : afieldAddr Tryz.prog 114 (.ptr id off) 0 = some (.ptr id (off + 0)) := by simp [afieldAddr, tfield]
@[simp] theorem fieldAddr114_0c {x : AV} {off : Nat} : afieldAddr Tryz.prog 114 (.cptr x off) 0 = some (.cptr x (off + 0)) := by simp [afieldAddr, tfield]
@[simp] theorem fieldAddr114_1 {id off : Nat} : afieldAddr Tryz.prog 114 (.ptr id off) 1 = some (.ptr id (off + 1)) := by simp [afieldAddr, tfield]
@[simp] theorem fieldAddr114_1c {x : AV} {off : Nat} : afieldAddr Tryz.prog 114 (.cptr x off) 1 = some (.cptr x (off + 1)) := by simp [afieldAddr, tfield]
@[simp] theorem fieldAddr114_2 {id off : Nat} : afieldAddr Tryz.prog 114 (.ptr id off) 2 = some (.ptr id (off + 2)) := by simp [afieldAddr, tfield]
@[simp] theorem fieldAddr114_2c {x : AV} {off : Nat} : afieldAddr Tryz.prog 114 (.cptr x off) 2 = some (.cptr x (off + 2)) := by simp [afieldAddr, tfield]
attribute [simp] Tryz.underlying116
@[simp] theorem tagg116 : tagg Tryz.prog 116 = some false := by kernel_rfl
@[simp] theorem tsize116 : tsize Tryz.prog 116 = some 1 := by kernel_rfl
@[simp] theorem tbytes116 : tbytes Tryz.prog 116 = some 8 := by kernel_rfl
@[simp] theorem tzero116 : tzero Tryz.prog 116 = some (.sc (.nilFunc)) := by kernel_rfl
attribute [simp] Tryz.underlying118
@[simp] theorem tagg118 : tagg Tryz.prog 118 = some false := by kernel_rfl
@[simp] theorem tsize118 : tsize Tryz.prog 118 = some 1 := by kernel_rfl
@[simp] theorem tbytes118 : tbytes Tryz.prog 118 = some 8 := by kernel_rfl
@[simp] theorem tzero118 : tzero Tryz.prog 118 = some (.sc (.nilFunc)) := by kernel_rfl
attribute [simp] Tryz.underlying119
@[simp] theorem tagg119 : tagg Tryz.prog 119 = some false := by kernel_rfl
@[simp] theorem tsize119 : tsize Tryz.prog 119 = some 1 := by kernel_rfl
@[simp] theorem tbytes119 : tbytes Tryz.prog 119 = some 8 := by kernel_rfl
@[simp] theorem tzero119 : tzero Tryz.prog 119 = some (.sc (.map Option.none)) := by kernel_rfl
@[simp] theorem tmap119 : tmap Tryz.prog 119 = some (3, 3) := by kernel_rfl
attribute [simp] Tryz.underlying120
@[simp] theorem tagg120 : tagg Tryz.prog 120 = some false := by kernel_rfl
@[simp] theorem tsize120 : tsize Tryz.prog 120 = some 1 := by kernel_rfl
@[simp] theorem tbytes120 : tbytes Tryz.prog 120 = some 8 := by kernel_rfl
@[simp] theorem tzero120 : tzero Tryz.prog 120 = some (.sc (.nilFunc)) := by kernel_rfl
attribute [simp] Tryz.underlying121
@[simp] theorem tagg121 : tagg Tryz.prog 121 = some false := by kernel_rfl
@[simp] theorem tsize121 : tsize Tryz.prog 121 = some 1 := by kernel_rfl
@[simp] theorem tbytes121 : tbytes Tryz.prog 121 = some 8 := by kernel_rfl
@[simp] theorem tzero121 : tzero Tryz.prog 121 = some (.sc (.nilFunc)) := by kernel_rfl
attribute [simp] Tryz.underlying122
@[simp] theorem tagg122 : tagg Tryz.prog 122 = some false := by kernel_rfl
@[simp] theorem tsize122 : tsize Tryz.prog 122 = some 1 := by kernel_rfl
@[simp] theorem tbytes122 : tbytes Tryz.prog 122 = some 8 := by kernel_rfl
@[simp] theorem tzero122 : tzero Tryz.prog 122 = some (.sc (.nilFunc)) := by kernel_rfl
attribute [simp] Tryz.underlying123
@[simp] theorem tagg123 : tagg Tryz.prog 123 = some false := by kernel_rfl
@[simp] theorem tsize123 : tsize Tryz.prog 123 = some 1 := by kernel_rfl
@[simp] theorem tbytes123 : tbytes Tryz.prog 123 = some 8 := by kernel_rfl
@[simp] theorem tzero123 : tzero Tryz.prog 123 = some (.sc (.nilFunc)) := by kernel_rfl
attribute [simp] Tryz.underlying124
@[simp] theorem tagg124 : tagg Tryz.prog 124 = some false := by kernel_rfl
@[simp] theorem tsize124 : tsize Tryz.prog 124 = some 1 := by kernel_rfl
@[simp] theorem tbytes124 : tbytes Tryz.prog 124 = some 8 := by kernel_rfl
@[simp] theorem tzero124 : tzero Tryz.prog 124 = some (.sc (.nilFunc)) := by kernel_rfl
attribute [simp] Tryz.underlying125
@[simp] theorem tagg125 : tagg Tryz.prog 125 = some false := by kernel_rfl
@[simp] theorem tsize125 : tsize Tryz.prog 125 = some 1 := by kernel_rfl
@[simp] theorem tbytes125 : tbytes Tryz.prog 125 = some 8 := by kernel_rfl
@[simp] theorem tzero125 : tzero Tryz.prog 125 = some (.sc (.nilFunc)) := by kernel_rfl
attribute [simp] Tryz.underlying126
@[simp] theorem tagg126 : tagg Tryz.prog 126 = some false := by kernel_rfl
@[simp] theorem tsize126 : tsize Tryz.prog 126 = some 1 := by kernel_rfl
@[simp] theorem tbytes126 : tbytes Tryz.prog 126 = some 8 := by kernel_rfl
@[simp] theorem tzero126 : tzero Tryz.prog 126 = some (.sc (.nilFunc)) := by kernel_rfl
attribute [simp] Tryz.underlying127
@[simp] theorem tagg127 : tagg Tryz.prog 127 = some false := by kernel_rfl
@[simp] theorem tsize127 : tsize Tryz.prog 127 = some 1 := by kernel_rfl
@[simp] theorem tbytes127 : tbytes Tryz.prog 127 = some 8 := by kernel_rfl
@[simp] theorem tzero127 : tzero Tryz.prog 127 = some (.sc (.nilFunc)) := by kernel_rfl
attribute [simp] Tryz.underlying128
@[simp] theorem tagg128 : tagg Tryz.prog 128 = some false := by kernel_rfl
@[simp] theorem tsize128 : tsize Tryz.prog 128 = some 1 := by kernel_rfl
@[simp] theorem tbytes128 : tbytes Tryz.prog 128 = some 8 := by kernel_rfl
@[simp] theorem tzero128 : tzero Tryz.prog 128 = some (.sc (.nilFunc)) := by kernel_rfl
attribute [simp] Tryz.underlying129
@[simp] theorem tagg129 : tagg Tryz.prog 129 = some false := by kernel_rfl
@[simp] theorem tsize129 : tsize Tryz.prog 129 = some 1 := by kernel_rfl
@[simp] theorem tbytes129 : tbytes Tryz.prog 129 = some 8 := by kernel_rfl
@[simp] theorem tzero129 : tzero Tryz.prog 129 = some (.sc (.pointer Option.none)) := by kernel_rfl
attribute [simp] Tryz.underlying130
@[simp] theorem tagg130 : tagg Tryz.prog 130 = some false := by kernel_rfl
@[simp] theorem tsize130 : tsize Tryz.prog 130 = some 1 := by kernel_rfl
@[simp] theorem tbytes130 : tbytes Tryz.prog 130 = some 8 := by kernel_rfl
@[simp] theorem tzero130 : tzero Tryz.prog 130 = some (.sc (.nilFunc)) := by kernel_rfl
attribute [simp] Tryz.underlying131
@[simp] theorem tagg131 : tagg Tryz.prog 131 = some true := by kernel_rfl
@[simp] theorem tsize131 : tsize Tryz.prog 131 = some 3 := by kernel_rfl
@[simp] theorem tbytes131 : tbytes Tryz.prog 131 = some 56 := by kernel_rfl
@[simp] theorem tzero131 : tzero Tryz.prog 131 = some (.agg [.emp 0, .emp 0, .sc (.int .i64 0)]) := by kernel_rfl
@[simp] theorem fieldAddr131_0 {id off : Nat} : afieldAddr Tryz.prog 131 (.ptr id off) 0 = some (.ptr id (off + 0)) := by simp [afieldAddr, tfield]
@[simp] theorem fieldAddr131_0c {x : AV} {off : Nat} : afieldAddr Tryz.prog 131 (.cptr x off) 0 = some (.cptr x (off + 0)) := by simp [afieldAddr, tfield]
@[simp] theorem fieldAddr131_1 {id off : Nat} : afieldAddr Tryz.prog 131 (.ptr id off) 1 = some (.ptr id (off + 1)) := by simp [afieldAddr, tfield]
@[simp] theorem fieldAddr131_1c {x : AV} {off : Nat} : afieldAddr Tryz.prog 131 (.cptr x off) 1 = some (.cptr x (off + 1)) := by simp [afieldAddr, tfield]
@[simp] theorem fieldAddr131_2 {id off : Nat} : afieldAddr Tryz.prog 131 (.ptr id off) 2 = some (.ptr id (off + 2)) := by simp [afieldAddr, tfield]
@[simp] theorem fieldAddr131_2c {x : AV} {off : Nat} : afieldAddr Tryz.prog 131 (.cptr x off) 2 = some (.cptr x (off + 2)) := by simp [afieldAddr, tfield]
attribute [simp] Tryz.underlying132
@[simp] theorem tagg132 : tagg Tryz.prog 132 = some true := by kernel_rfl
@[simp] theorem tsize132 : tsize Tryz.prog 132 = some 3 := by kernel_rfl
@[simp] theorem tbytes132 : tbytes Tryz.prog 132 = some 56 := by kernel_rfl
@[simp] theorem tzero132 : tzero Tryz.prog 132 = some (.agg [.emp 0, .emp 0, .sc (.int .i64 0)]) := by kernel_rfl
@[simp] theorem fieldAddr132_0 {id off : Nat} : afieldAddr Tryz.prog 132 (.ptr id off) 0 = some (.ptr id (off + 0)) := by simp [afieldAddr, tfield]
@[simp] theorem fieldAddr132_0c {x : AV} {off : Nat} : afieldAddr Tryz.prog 132 (.cptr x off) 0 = some (.cptr x (off + 0)) := by simp [afieldAddr, tfield]
@[simp] theorem fieldAddr132_1 {id off : Nat} : afieldAddr Tryz.prog 132 (.ptr id off) 1 = some (.ptr id (off + 1)) := by simp [afieldAddr, tfield]
@[simp] theorem fieldAddr132_1c {x : AV} {off : Nat} : afieldAddr Tryz.prog 132 (.cptr x off) 1 = some (.cptr x (off + 1)) := by simp [afieldAddr, tfield]
@[simp] theorem fieldAddr132_2 {id off : Nat} : afieldAddr Tryz.prog 132 (.ptr id off) 2 = some (.ptr id (off + 2)) := by simp [afieldAddr, tfield]
@[simp] theorem fieldAddr132_2c {x : AV} {off : Nat} : afieldAddr Tryz.prog 132 (.cptr x off) 2 = some (.cptr x (off + 2)) := by simp [afieldAddr, tfield]
attribute [simp] Tryz.underlying133
@[simp] theorem tagg133 : tagg Tryz.prog 133 = some false := by kernel_rfl
@[simp] theorem tsize133 : tsize Tryz.prog 133 = some 1 := by kernel_rfl
@[simp] theorem tbytes133 : tbytes Tryz.prog 133 = some 8 := by kernel_rfl
@[simp] theorem tzero133 : tzero Tryz.prog 133 = some (.sc (.nilFunc)) := by kernel_rfl
attribute [simp] Tryz.underlying134
@[simp] theorem tagg134 : tagg Tryz.prog 134 = some false := by kernel_rfl
@[simp] theorem tsize134 : tsize Tryz.prog 134 = some 1 := by kernel_rfl
@[simp] theorem tbytes134 : tbytes Tryz.prog 134 = some 8 := by kernel_rfl
@[simp] theorem tzero134 : tzero Tryz.prog 134 = some (.sc (.nilFunc)) := by kernel_rfl
attribute [simp] Tryz.underlying135
@[simp] theorem tagg135 : tagg Tryz.prog 135 = some false := by kernel_rfl
@[simp] theorem tsize135 : tsize Tryz.prog 135 = some 1 := by kernel_rfl
@[simp] theorem tbytes135 : tbytes Tryz.prog 135 = some 8 := by kernel_rfl
@[simp] theorem tzero135 : tzero Tryz.prog 135 = some (.sc (.pointer Option.none)) := by kernel_rfl
attribute [simp] Tryz.underlying136
@[simp] theorem tagg136 : tagg Tryz.prog 136 = some false := by kernel_rfl
@[simp] theorem tsize136 : tsize Tryz.prog 136 = some 1 := by kernel_rfl
@[simp] theorem tbytes136 : tbytes Tryz.prog 136 = some 8 := by kernel_rfl
@[simp] theorem tzero136 : tzero Tryz.prog 136 = some (.sc (.nilFunc)) := by kernel_rfl
attribute [simp] Tryz.underlying137
@[simp] theorem tagg137 : tagg Tryz.prog 137 = some false := by kernel_rfl
@[simp] theorem tsize137 : tsize Tryz.prog 137 = some 1 := by kernel_rfl
@[simp] theorem tbytes137 : tbytes Tryz.prog 137 = some 8 := by kernel_rfl
@[simp] theorem tzero137 : tzero Tryz.prog 137 = some (.sc (.nilFunc)) := by kernel_rfl
attribute [simp] Tryz.underlying138
@[simp] theorem tagg138 : tagg Tryz.prog 138 = some false := by kernel_rfl
@[simp] theorem tsize138 : tsize Tryz.prog 138 = some 1 := by kernel_rfl
@[simp] theorem tbytes138 : tbytes Tryz.prog 138 = some 8 := by kernel_rfl
@[simp] theorem tzero138 : tzero Tryz.prog 138 = some (.sc (.nilFunc)) := by kernel_rfl
attribute [simp] Tryz.underlying139
@[simp] theorem tagg139 : tagg Tryz.prog 139 = some false := by kernel_rfl
@[simp] theorem tsize139 : tsize Tryz.prog 139 = some 1 := by kernel_rfl
@[simp] theorem tbytes139 : tbytes Tryz.prog 139 = some 8 := by kernel_rfl
@[simp] theorem tzero139 : tzero Tryz.prog 139 = some (.sc (.nilFunc)) := by kernel_rfl
attribute [simp] Tryz.underlying140
@[simp] theorem tagg140 : tagg Tryz.prog 140 = some false := by kernel_rfl
@[simp] theorem tsize140 : tsize Tryz.prog 140 = some 1 := by kernel_rfl
@[simp] theorem tbytes140 : tbytes Tryz.prog 140 = some 8 := by kernel_rfl
@[simp] theorem tzero140 : tzero Tryz.prog 140 = some (.sc (.nilFunc)) := by kernel_rfl
attribute [simp] Tryz.underlying142
@[simp] theorem tagg142 : tagg Tryz.prog 142 = some false := by kernel_rfl
@[simp] theorem tsize142 : tsize Tryz.prog 142 = some 1 := by kernel_rfl
@[simp] theorem tbytes142 : tbytes Tryz.prog 142 = some 8 := by kernel_rfl
@[simp] theorem tzero142 : tzero Tryz.prog 142 = some (.sc (.nilFunc)) := by kernel_rfl
attribute [simp] Tryz.underlying143
@[simp] theorem tagg143 : tagg Tryz.prog 143 = some false := by kernel_rfl
@[simp] theorem tsize143 : tsize Tryz.prog 143 = some 1 := by kernel_rfl
@[simp] theorem tbytes143 : tbytes Tryz.prog 143 = some 8 := by kernel_rfl
@[simp] theorem tzero143 : tzero Tryz.prog 143 = some (.sc (.nilFunc)) := by kernel_rfl
attribute [simp] Tryz.underlying144
@[simp] theorem tagg144 : tagg Tryz.prog 144 = some false := by kernel_rfl
@[simp] theorem tsize144 : tsize Tryz.prog 144 = some 1 := by kernel_rfl
@[simp] theorem tbytes144 : tbytes Tryz.prog 144 = some 8 := by kernel_rfl
@[simp] theorem tzero144 : tzero Tryz.prog 144 = some (.sc (.nilFunc)) := by kernel_rfl
attribute [simp] Tryz.underlying145
@[simp] theorem tagg145 : tagg Tryz.prog 145 = some false := by kernel_rfl
@[simp] theorem tsize145 : tsize Tryz.prog 145 = some 1 := by kernel_rfl
@[simp] theorem tbytes145 : tbytes Tryz.prog 145 = some 8 := by kernel_rfl
@[simp] theorem tzero145 : tzero Tryz.prog 145 = some (.sc (.nilFunc)) := by kernel_rfl
attribute [simp] Tryz.underlying146
@[simp] theorem tagg146 : tagg Tryz.prog 146 = some false := by kernel_rfl
@[simp] theorem tsize146 : tsize Tryz.prog 146 = some 1 := by kernel_rfl
@[simp] theorem tbytes146 : tbytes Tryz.prog 146 = some 8 := by kernel_rfl
@[simp] theorem tzero146 : tzero Tryz.prog 146 = some (.sc (.pointer Option.none)) := by kernel_rfl
attribute [simp] Tryz.underlying147
@[simp] theorem tagg147 : tagg Tryz.prog 147 = some false := by kernel_rfl
@[simp] theorem tsize147 : tsize Tryz.prog 147 = some 1 := by kernel_rfl
@[simp] theorem tbytes147 : tbytes Tryz.prog 147 = some 8 := by kernel_rfl
@[simp] theorem tzero147 : tzero Tryz.prog 147 = some (.sc (.nilFunc)) := by kernel_rfl
attribute [simp] Tryz.underlying148
@[simp] theorem tagg148 : tagg Tryz.prog 148 = some false := by kernel_rfl
@[simp] theorem tsize148 : tsize Tryz.prog 148 = some 1 := by kernel_rfl
@[simp] theorem tbytes148 : tbytes Tryz.prog 148 = some 8 := by kernel_rfl
@[simp] theorem tzero148 : tzero Tryz.prog 148 = some (.sc (.nilFunc)) := by kernel_rfl
attribute [simp] Tryz.underlying149
@[simp] theorem tagg149 : tagg Tryz.prog 149 = some false := by kernel_rfl
@[simp] theorem tsize149 : tsize Tryz.prog 149 = some 1 := by kernel_rfl
@[simp] theorem tbytes149 : tbytes Tryz.prog 149 = some 8 := by kernel_rfl
@[simp] theorem tzero149 : tzero Tryz.prog 149 = some (.sc (.nilFunc)) := by kernel_rfl
attribute [simp] Tryz.underlying151
@[simp] theorem tagg151 : tagg Tryz.prog 151 = some false := by kernel_rfl
@[simp] theorem tsize151 : tsize Tryz.prog 151 = some 1 := by kernel_rfl
@[simp] theorem tbytes151 : tbytes Tryz.prog 151 = some 8 := by kernel_rfl
@[simp] theorem tzero151 : tzero Tryz.prog 151 = some (.sc (.nilFunc)) := by kernel_rfl
attribute [simp] Tryz.underlying152
@[simp] theorem tagg152 : tagg Tryz.prog 152 = some false := by kernel_rfl
@[simp] theorem tsize152 : tsize Tryz.prog 152 = some 1 := by kernel_rfl
@[simp] theorem tbytes152 : tbytes Tryz.prog 152 = some 8 := by kernel_rfl
@[simp] theorem tzero152 : tzero Tryz.prog 152 = some (.sc (.nilFunc)) := by kernel_rfl
attribute [simp] Tryz.underlying153
@[simp] theorem tagg153 : tagg Tryz.prog 153 = some false := by kernel_rfl
@[simp] theorem tsize153 : tsize Tryz.prog 153 = some 1 := by kernel_rfl
@[simp] theorem tbytes153 : tbytes Tryz.prog 153 = some 8 := by kernel_rfl
@[simp] theorem tzero153 : tzero Tryz.prog 153 = some (.sc (.nilFunc)) := by kernel_rfl
attribute [simp] Tryz.underlying154
@[simp] theorem tagg154 : tagg Tryz.prog 154 = some false := by kernel_rfl
@[simp] theorem tsize154 : tsize Tryz.prog 154 = some 1 := by kernel_rfl
@[simp] theorem tbytes154 : tbytes Tryz.prog 154 = some 8 := by kernel_rfl
@[simp] theorem tzero154 : tzero Tryz.prog 154 = some (.sc (.nilFunc)) := by kernel_rfl
attribute [simp] Tryz.underlying155
@[simp] theorem tagg155 : tagg Tryz.prog 155 = some false := by kernel_rfl
@[simp] theorem tsize155 : tsize Tryz.prog 155 = some 1 := by kernel_rfl
@[simp] theorem tbytes155 : tbytes Tryz.prog 155 = some 8 := by kernel_rfl
@[simp] theorem tzero155 : tzero Tryz.prog 155 = some (.sc (.nilFunc)) := by kernel_rfl
attribute [simp] Tryz.underlying157
@[simp] theorem tagg157 : tagg Tryz.prog 157 = some false := by kernel_rfl
@[simp] theorem tsize157 : tsize Tryz.prog 157 = some 1 := by kernel_rfl
@[simp] theorem tbytes157 : tbytes Tryz.prog 157 = some 8 := by kernel_rfl
@[simp] theorem tzero157 : tzero Tryz.prog 157 = some (.sc (.nilFunc)) := by kernel_rfl
attribute [simp] Tryz.underlying158
@[simp] theorem tagg158 : tagg Tryz.prog 158 = some false := by kernel_rfl
@[simp] theorem tsize158 : tsize Tryz.prog 158 = some 1 := by kernel_rfl
@[simp] theorem tbytes158 : tbytes Tryz.prog 158 = some 8 := by kernel_rfl
@[simp] theorem tzero158 : tzero Tryz.prog 158 = some (.sc (.nilFunc)) := by kernel_rfl
attribute [simp] Tryz.underlying159
@[simp] theorem tagg159 : tagg Tryz.prog 159 = some false := by kernel_rfl
@[simp] theorem tsize159 : tsize Tryz.prog 159 = some 1 := by kernel_rfl
@[simp] theorem tbytes159 : tbytes Tryz.prog 159 = some 8 := by kernel_rfl
@[simp] theorem tzero159 : tzero Tryz.prog 159 = some (.sc (.nilFunc)) := by kernel_rfl
attribute [simp] Tryz.underlying160
@[simp] theorem tagg160 : tagg Tryz.prog 160 = some false := by kernel_rfl
@[simp] theorem tsize160 : tsize Tryz.prog 160 = some 1 := by kernel_rfl
@[simp] theorem tbytes160 : tbytes Tryz.prog 160 = some 8 := by kernel_rfl
@[simp] theorem tzero160 : tzero Tryz.prog 160 = some (.sc (.nilFunc)) := by kernel_rfl
attribute [simp] Tryz.underlying161
@[simp] theorem tagg161 : tagg Tryz.prog 161 = some false := by kernel_rfl
@[simp] theorem tsize161 : tsize Tryz.prog 161 = some 1 := by kernel_rfl
@[simp] theorem tbytes161 : tbytes Tryz.prog 161 = some 24 := by kernel_rfl
@[simp] theorem tzero161 : tzero Tryz.prog 161 = some (.emp 0) := by kernel_rfl
@[simp] theorem telem161 : telem Tryz.prog 161 = some 43 := by kernel_rfl
@[simp] theorem nofz161 : nofz Tryz.prog 161 = false := by kernel_rfl
attribute [simp] Tryz.underlying162
@[simp] theorem tagg162 : tagg Tryz.prog 162 = some false := by kernel_rfl
@[simp] theorem tsize162 : tsize Tryz.prog 162 = some 1 := by kernel_rfl
@[simp] theorem tbytes162 : tbytes Tryz.prog 162 = some 8 := by kernel_rfl
@[simp] theorem tzero162 : tzero Tryz.prog 162 = some (.sc (.nilFunc)) := by kernel_rfl
attribute [simp] Tryz.underlying163
@[simp] theorem tagg163 : tagg Tryz.prog 163 = some false := by kernel_rfl
@[simp] theorem tsize163 : tsize Tryz.prog 163 = some 1 := by kernel_rfl
@[simp] theorem tbytes163 : tbytes Tryz.prog 163 = some 8 := by kernel_rfl
@[simp] theorem tzero163 : tzero Tryz.prog 163 = some (.sc (.nilFunc)) := by kernel_rfl
attribute [simp] Tryz.underlying164
@[simp] theorem tagg164 : tagg Tryz.prog 164 = some false := by kernel_rfl
@[simp] theorem tsize164 : tsize Tryz.prog 164 = some 1 := by kernel_rfl
@[simp] theorem tbytes164 : tbytes Tryz.prog 164 = some 8 := by kernel_rfl
@[simp] theorem tzero164 : tzero Tryz.prog 164 = some (.sc (.nilFunc)) := by kernel_rfl
attribute [simp] Tryz.underlying165
@[simp] theorem tagg165 : tagg Tryz.prog 165 = some false := by kernel_rfl
@[simp] theorem tsize165 : tsize Tryz.prog 165 = some 1 := by kernel_rfl
@[simp] theorem tbytes165 : tbytes Tryz.prog 165 = some 8 := by kernel_rfl
@[simp] theorem tzero165 : tzero Tryz.prog 165 = some (.sc (.nilFunc)) := by kernel_rfl
attribute [simp] Tryz.underlying166
@[simp] theorem tagg166 : tagg Tryz.prog 166 = some false := by kernel_rfl
@[simp] theorem tsize166 : tsize Tryz.prog 166 = some 1 := by kernel_rfl
@[simp] theorem tbytes166 : tbytes Tryz.prog 166 = some 8 := by kernel_rfl
@[simp] theorem tzero166 : tzero Tryz.prog 166 = some (.sc (.nilFunc)) := by kernel_rfl
attribute [simp] Tryz.underlying167
@[simp] theorem tagg167 : tagg Tryz.prog 167 = some false := by kernel_rfl
@[simp] theorem tsize167 : tsize Tryz.prog 167 = some 1 := by kernel_rfl
@[simp] theorem tbytes167 : tbytes Tryz.prog 167 = some 8 := by kernel_rfl
@[simp] theorem tzero167 : tzero Tryz.prog 167 = some (.sc (.nilFunc)) := by kernel_rfl
attribute [simp] Tryz.underlying168
@[simp] theorem tagg168 : tagg Tryz.prog 168 = some false := by kernel_rfl
@[simp] theorem tsize168 : tsize Tryz.prog 168 = some 1 := by kernel_rfl
@[simp] theorem tbytes168 : tbytes Tryz.prog 168 = some 8 := by kernel_rfl
@[simp] theorem tzero168 : tzero Tryz.prog 168 = some (.sc (.nilFunc)) := by kernel_rfl
attribute [simp] Tryz.underlying169
@[simp] theorem tagg169 : tagg Tryz.prog 169 = some false := by kernel_rfl
@[simp] theorem tsize169 : tsize Tryz.prog 169 = some 1 := by kernel_rfl
@[simp] theorem tbytes169 : tbytes Tryz.prog 169 = some 8 := by kernel_rfl
@[simp] theorem tzero169 : tzero Tryz.prog 169 = some (.sc (.nilFunc)) := by kernel_rfl
attribute [simp] Tryz.underlying170
@[simp] theorem tagg170 : tagg Tryz.prog 170 = some false := by kernel_rfl
@[simp] theorem tsize170 : tsize Tryz.prog 170 = some 1 := by kernel_rfl
@[simp] theorem tbytes170 : tbytes Tryz.prog 170 = some 8 := by kernel_rfl
@[simp] theorem tzero170 : tzero Tryz.prog 170 = some (.sc (.nilFunc)) := by kernel_rfl
attribute [simp] Tryz.underlying171
@[simp] theorem tagg171 : tagg Tryz.prog 171 = some false := by kernel_rfl
@[simp] theorem tsize171 : tsize Tryz.prog 171 = some 1 := by kernel_rfl
@[simp] theorem tbytes171 : tbytes Tryz.prog 171 = some 8 := by kernel_rfl
@[simp] theorem tzero171 : tzero Tryz.prog 171 = some (.sc (.nilFunc)) := by kernel_rfl
attribute [simp] Tryz.underlying172
@[simp] theorem tagg172 : tagg Tryz.prog 172 = some false := by kernel_rfl
@[simp] theorem tsize172 : tsize Tryz.prog 172 = some 1 := by kernel_rfl
@[simp] theorem tbytes172 : tbytes Tryz.prog 172 = some 8 := by kernel_rfl
@[simp] theorem tzero172 : tzero Tryz.prog 172 = some (.sc (.nilFunc)) := by kernel_rfl
attribute [simp] Tryz.underlying173
@[simp] theorem tagg173 : tagg Tryz.prog 173 = some false := by kernel_rfl
@[simp] theorem tsize173 : tsize Tryz.prog 173 = some 1 := by kernel_rfl
@[simp] theorem tbytes173 : tbytes Tryz.prog 173 = some 8 := by kernel_rfl
@[simp] theorem tzero173 : tzero Tryz.prog 173 = some (.sc (.nilFunc)) := by kernel_rfl
attribute [simp] Tryz.underlying174
@[simp] theorem tagg174 : tagg Tryz.prog 174 = some false := by kernel_rfl
@[simp] theorem tsize174 : tsize Tryz.prog 174 = some 1 := by kernel_rfl
@[simp] theorem tbytes174 : tbytes Tryz.prog 174 = some 8 := by kernel_rfl
@[simp] theorem tzero174 : tzero Tryz.prog 174 = some (.sc (.nilFunc)) := by kernel_rfl
attribute [simp] Tryz.underlying175
@[simp] theorem tagg175 : tagg Tryz.prog 175 = some false := by kernel_rfl
@[simp] theorem tsize175 : tsize Tryz.prog 175 = some 1 := by kernel_rfl
@[simp] theorem tbytes175 : tbytes Tryz.prog 175 = some 24 := by kernel_rfl
@[simp] theorem tzero175 : tzero Tryz.prog 175 = some (.emp 0) := by kernel_rfl
@[simp] theorem telem175 : telem Tryz.prog 175 = some 66 := by kernel_rfl
@[simp] theorem nofz175 : nofz Tryz.prog 175 = false := by kernel_rfl
attribute [simp] Tryz.underlying176
@[simp] theorem tagg176 : tagg Tryz.prog 176 = some false := by kernel_rfl
@[simp] theorem tsize176 : tsize Tryz.prog 176 = some 1 := by kernel_rfl
@[simp] theorem tbytes176 : tbytes Tryz.prog 176 = some 8 := by kernel_rfl
@[simp] theorem tzero176 : tzero Tryz.prog 176 = some (.sc (.nilFunc)) := by kernel_rfl
attribute [simp] Tryz.underlying177
@[simp] theorem tagg177 : tagg Tryz.prog 177 = some false := by kernel_rfl
@[simp] theorem tsize177 : tsize Tryz.prog 177 = some 1 := by kernel_rfl
@[simp] theorem tbytes177 : tbytes Tryz.prog 177 = some 8 := by kernel_rfl
@[simp] theorem tzero177 : tzero Tryz.prog 177 = some (.sc (.nilFunc)) := by kernel_rfl
attribute [simp] Tryz.underlying178
@[simp] theorem tagg178 : tagg Tryz.prog 178 = some false := by kernel_rfl
@[simp] theorem tsize178 : tsize Tryz.prog 178 = some 1 := by kernel_rfl
@[simp] theorem tbytes178 : tbytes Tryz.prog 178 = some 8 := by kernel_rfl
@[simp] theorem tzero178 : tzero Tryz.prog 178 = some (.sc (.nilFunc)) := by kernel_rfl
attribute [simp] Tryz.underlying179
@[simp] theorem tagg179 : tagg Tryz.prog 179 = some false := by kernel_rfl
@[simp] theorem tsize179 : tsize Tryz.prog 179 = some 1 := by kernel_rfl
@[simp] theorem tbytes179 : tbytes Tryz.prog 179 = some 8 := by kernel_rfl
@[simp] theorem tzero179 : tzero Tryz.prog 179 = some (.sc (.nilFunc)) := by kernel_rfl
attribute [simp] Tryz.underlying180
@[simp] theorem tagg180 : tagg Tryz.prog 180 = some false := by kernel_rfl
@[simp] theorem tsize180 : tsize Tryz.prog 180 = some 1 := by kernel_rfl
@[simp] theorem tbytes180 : tbytes Tryz.prog 180 = some 8 := by kernel_rfl
@[simp] theorem tzero180 : tzero Tryz.prog 180 = some (.sc (.nilFunc)) := by kernel_rfl
attribute [simp] Tryz.underlying181
@[simp] theorem tagg181 : tagg Tryz.prog 181 = some false := by kernel_rfl
@[simp] theorem tsize181 : tsize Tryz.prog 181 = some 1 := by kernel_rfl
@[simp] theorem tbytes181 : tbytes Tryz.prog 181 = some 8 := by kernel_rfl
@[simp] theorem tzero181 : tzero Tryz.prog 181 = some (.sc (.nilFunc)) := by kernel_rfl
attribute [simp] Tryz.underlying182
@[simp] theorem tagg182 : tagg Tryz.prog 182 = some false := by kernel_rfl
@[simp] theorem tsize182 : tsize Tryz.prog 182 = some 1 := by kernel_rfl
@[simp] theorem tbytes182 : tbytes Tryz.prog 182 = some 8 := by kernel_rfl
@[simp] theorem tzero182 : tzero Tryz.prog 182 = some (.sc (.nilFunc)) := by kernel_rfl
attribute [simp] Tryz.underlying183
@[simp] theorem tagg183 : tagg Tryz.prog 183 = some false := by kernel_rfl
@[simp] theorem tsize183 : tsize Tryz.prog 183 = some 1 := by kernel_rfl
@[simp] theorem tbytes183 : tbytes Tryz.prog 183 = some 8 := by kernel_rfl
@[simp] theorem tzero183 : tzero Tryz.prog 183 = some (.sc (.nilFunc)) := by kernel_rfl
attribute [simp] Tryz.underlying184
@[simp] theorem tagg184 : tagg Tryz.prog 184 = some false := by kernel_rfl
@[simp] theorem tsize184 : tsize Tryz.prog 184 = some 1 := by kernel_rfl
@[simp] theorem tbytes184 : tbytes Tryz.prog 184 = some 8 := by kernel_rfl
@[simp] theorem tzero184 : tzero Tryz.prog 184 = some (.sc (.nilFunc)) := by kernel_rfl
attribute [simp] Tryz.underlying185
@[simp] theorem tagg185 : tagg Tryz.prog 185 = some false := by kernel_rfl
@[simp] theorem tsize185 : tsize Tryz.prog 185 = some 1 := by kernel_rfl
@[simp] theorem tbytes185 : tbytes Tryz.prog 185 = some 8 := by kernel_rfl
@[simp] theorem tzero185 : tzero Tryz.prog 185 = some (.sc (.nilFunc)) := by kernel_rfl
attribute [simp] Tryz.underlying186
@[simp] theorem tagg186 : tagg Tryz.prog 186 = some false := by kernel_rfl
@[simp] theorem tsize186 : tsize Tryz.prog 186 = some 1 := by kernel_rfl
@[simp] theorem tbytes186 : tbytes Tryz.prog 186 = some 8 := by kernel_rfl
@[simp] theorem tzero186 : tzero Tryz.prog 186 = some (.sc (.nilFunc)) := by kernel_rfl
attribute [simp] Tryz.underlying187
@[simp] theorem tagg187 : tagg Tryz.prog 187 = some false := by kernel_rfl
@[simp] theorem tsize187 : tsize Tryz.prog 187 = some 1 := by kernel_rfl
@[simp] theorem tbytes187 : tbytes Tryz.prog 187 = some 8 := by kernel_rfl
@[simp] theorem tzero187 : tzero Tryz.prog 187 = some (.sc (.nilFunc)) := by kernel_rfl
attribute [simp] Tryz.underlying188
@[simp] theorem tagg188 : tagg Tryz.prog 188 = some false := by kernel_rfl
@[simp] theorem tsize188 : tsize Tryz.prog 188 = some 1 := by kernel_rfl
@[simp] theorem tbytes188 : tbytes Tryz.prog 188 = some 8 := by kernel_rfl
@[simp] theorem tzero188 : tzero Tryz.prog 188 = some (.sc (.nilFunc)) := by kernel_rfl
attribute [simp] Tryz.underlying189
@[simp] theorem tagg189 : tagg Tryz.prog 189 = some false := by kernel_rfl
@[simp] theorem tsize189 : tsize Tryz.prog 189 = some 1 := by kernel_rfl
@[simp] theorem tbytes189 : tbytes Tryz.prog 189 = some 8 := by kernel_rfl
@[simp] theorem tzero189 : tzero Tryz.prog 189 = some (.sc (.nilFunc)) := by kernel_rfl
attribute [simp] Tryz.underlying190
@[simp] theorem tagg190 : tagg Tryz.prog 190 = some false := by kernel_rfl
@[simp] theorem tsize190 : tsize Tryz.prog 190 = some 1 := by kernel_rfl
@[simp] theorem tbytes190 : tbytes Tryz.prog 190 = some 8 := by kernel_rfl
@[simp] theorem tzero190 : tzero Tryz.prog 190 = some (.sc (.nilFunc)) := by kernel_rfl
attribute [simp] Tryz.underlying191
@[simp] theorem tagg191 : tagg Tryz.prog 191 = some false := by kernel_rfl
@[simp] theorem tsize191 : tsize Tryz.prog 191 = some 1 := by kernel_rfl
@[simp] theorem tbytes191 : tbytes Tryz.prog 191 = some 8 := by kernel_rfl
@[simp] theorem tzero191 : tzero Tryz.prog 191 = some (.sc (.nilFunc)) := by kernel_rfl
attribute [simp] Tryz.underlying192
@[simp] theorem tagg192 : tagg Tryz.prog 192 = some false := by kernel_rfl
@[simp] theorem tsize192 : tsize Tryz.prog 192 = some 1 := by kernel_rfl
@[simp] theorem tbytes192 : tbytes Tryz.prog 192 = some 8 := by kernel_rfl
@[simp] theorem tzero192 : tzero Tryz.prog 192 = some (.sc (.nilFunc)) := by kernel_rfl
attribute [simp] Tryz.underlying193
@[simp] theorem tagg193 : tagg Tryz.prog 193 = some false := by kernel_rfl
@[simp] theorem tsize193 : tsize Tryz.prog 193 = some 1 := by kernel_rfl
@[simp] theorem tbytes193 : tbytes Tryz.prog 193 = some 8 := by kernel_rfl
@[simp] theorem tzero193 : tzero Tryz.prog 193 = some (.sc (.nilFunc)) := by kernel_rfl
attribute [simp] Tryz.underlying194
@[simp] theorem tagg194 : tagg Tryz.prog 194 = some false := by kernel_rfl
@[simp] theorem tsize194 : tsize Tryz.prog 194 = some 1 := by kernel_rfl
@[simp] theorem tbytes194 : tbytes Tryz.prog 194 = some 8 := by kernel_rfl
@[simp] theorem tzero194 : tzero Tryz.prog 194 = some (.sc (.int .u64 0)) := by kernel_rfl
attribute [simp] Tryz.underlying196
@[simp] theorem tagg196 : tagg Tryz.prog 196 = some false := by kernel_rfl
@[simp] theorem tsize196 : tsize Tryz.prog 196 = some 1 := by kernel_rfl
@[simp] theorem tbytes196 : tbytes Tryz.prog 196 = some 8 := by kernel_rfl
@[simp] theorem tzero196 : tzero Tryz.prog 196 = some (.sc (.nilFunc)) := by kernel_rfl
attribute [simp] Tryz.underlying197
@[simp] theorem tagg197 : tagg Tryz.prog 197 = some false := by kernel_rfl
@[simp] theorem tsize197 : tsize Tryz.prog 197 = some 1 := by kernel_rfl
@[simp] theorem tbytes197 : tbytes Tryz.prog 197 = some 8 := by kernel_rfl
@[simp] theorem tzero197 : tzero Tryz.prog 197 = some (.sc (.nilFunc)) := by kernel_rfl
attribute [simp] Tryz.underlying198
@[simp] theorem tagg198 : tagg Tryz.prog 198 = some false := by kernel_rfl
@[simp] theorem tsize198 : tsize Tryz.prog 198 = some 1 := by kernel_rfl
@[simp] theorem tbytes198 : tbytes Tryz.prog 198 = some 8 := by kernel_rfl
@[simp] theorem tzero198 : tzero Tryz.prog 198 = some (.sc (.nilFunc)) := by kernel_rfl
attribute [simp] Tryz.underlying199
@[simp] theorem tagg199 : tagg Tryz.prog 199 = some false := by kernel_rfl
@[simp] theorem tsize199 : tsize Tryz.prog 199 = some 1 := by kernel_rfl
@[simp] theorem tbytes199 : tbytes Tryz.prog 199 = some 8 := by kernel_rfl
@[simp] theorem tzero199 : tzero Tryz.prog 199 = some (.sc (.nilFunc)) := by kernel_rfl
attribute [simp] Tryz.underlying200
@[simp] theorem tagg200 : tagg Tryz.prog 200 = some false := by kernel_rfl
@[simp] theorem tsize200 : tsize Tryz.prog 200 = some 1 := by kernel_rfl
@[simp] theorem tbytes200 : tbytes Tryz.prog 200 = some 8 := by kernel_rfl
@[simp] theorem tzero200 : tzero Tryz.prog 200 = some (.sc (.nilFunc)) := by kernel_rfl
attribute [simp] Tryz.underlying201
@[simp] theorem tagg201 : tagg Tryz.prog 201 = some false := by kernel_rfl
@[simp] theorem tsize201 : tsize Tryz.prog 201 = some 1 := by kernel_rfl
@[simp] theorem tbytes201 : tbytes Tryz.prog 201 = some 8 := by kernel_rfl
@[simp] theorem tzero201 : tzero Tryz.prog 201 = some (.sc (.nilFunc)) := by kernel_rfl
attribute [simp] Tryz.underlying202
@[simp] theorem tagg202 : tagg Tryz.prog 202 = some false := by kernel_rfl
@[simp] theorem tsize202 : tsize Tryz.prog 202 = some 1 := by kernel_rfl
@[simp] theorem tbytes202 : tbytes Tryz.prog 202 = some 8 := by kernel_rfl
@[simp] theorem tzero202 : tzero Tryz.prog 202 = some (.sc (.nilFunc)) := by kernel_rfl
attribute [simp] Tryz.underlying203
@[simp] theorem tagg203 : tagg Tryz.prog 203 = some false := by kernel_rfl
@[simp] theorem tsize203 : tsize Tryz.prog 203 = some 1 := by kernel_rfl
@[simp] theorem tbytes203 : tbytes Tryz.prog 203 = some 8 := by kernel_rfl
@[simp] theorem tzero203 : tzero Tryz.prog 203 = some (.sc (.nilFunc)) := by kernel_rfl
attribute [simp] Tryz.underlying204
@[simp] theorem tagg204 : tagg Tryz.prog 204 = some false := by kernel_rfl
@[simp] theorem tsize204 : tsize Tryz.prog 204 = some 1 := by kernel_rfl
@[simp] theorem tbytes204 : tbytes Tryz.prog 204 = some 8 := by kernel_rfl
@[simp] theorem tzero204 : tzero Tryz.prog 204 = some (.sc (.int .u64 0)) := by kernel_rfl
attribute [simp] Tryz.underlying206
@[simp] theorem tagg206 : tagg Tryz.prog 206 = some false := by kernel_rfl
@[simp] theorem tsize206 : tsize Tryz.prog 206 = some 1 := by kernel_rfl
@[simp] theorem tbytes206 : tbytes Tryz.prog 206 = some 8 := by kernel_rfl
@[simp] theorem tzero206 : tzero Tryz.prog 206 = some (.sc (.nilFunc)) := by kernel_rfl
attribute [simp] Tryz.underlying207
@[simp] theorem tagg207 : tagg Tryz.prog 207 = some true := by kernel_rfl
@[simp] theorem tsize207 : tsize Tryz.prog 207 = some 20 := by kernel_rfl
@[simp] theorem tbytes207 : tbytes Tryz.prog 207 = some 20 := by kernel_rfl
@[simp] theorem tzero207 : tzero Tryz.prog 207 = some (.agg [.sc (.int .u8 0), .sc (.int .u8 0), .sc (.int .u8 0), .sc (.int .u8 0), .sc (.int .u8 0), .sc (.int .u8 0), .sc (.int .u8 0), .sc (.int .u8 0), .sc (.int .u8 0), .sc (.int .u8 0), .sc (.int .u8 0), .sc (.int .u8 0), .sc (.int .u8 0), .sc (.int .u8 0), .sc (.int .u8 0), .sc (.int .u8 0), .sc (.int .u8 0), .sc (.int .u8 0), .sc (.int .u8 0), .sc (.int .u8 0)]) := by kernel_rfl
@[simp] theorem tarr207 : tarr Tryz.prog 207 = some (20, 5) := by kernel_rfl
attribute [simp] Tryz.underlying208
@[simp] theorem tagg208 : tagg Tryz.prog 208 = some false := by kernel_rfl
@[simp] theorem tsize208 : tsize Tryz.prog 208 = some 1 := by kernel_rfl
@[simp] theorem tbytes208 : tbytes Tryz.prog 208 = some 8 := by kernel_rfl
@[simp] theorem tzero208 : tzero Tryz.prog 208 = some (.sc (.nilFunc)) := by kernel_rfl
attribute [simp] Tryz.underlying209
@[simp] theorem tagg209 : tagg Tryz.prog 209 = some false := by kernel_rfl
@[simp] theorem tsize209 : tsize Tryz.prog 209 = some 1 := by kernel_rfl
@[simp] theorem tbytes209 : tbytes Tryz.prog 209 = some 8 := by kernel_rfl
@[simp] theorem tzero209 : tzero Tryz.prog 209 = some (.sc (.nilFunc)) := by kernel_rfl
attribute [simp] Tryz.underlying210
@[simp] theorem tagg210 : tagg Tryz.prog 210 = some false := by kernel_rfl
@[simp] theorem tsize210 : tsize Tryz.prog 210 = some 1 := by kernel_rfl
@[simp] theorem tbytes210 : tbytes Tryz.prog 210 = some 8 := by kernel_rfl
@[simp] theorem tzero210 : tzero Tryz.prog 210 = some (.sc (.nilFunc)) := by kernel_rfl
attribute [simp] Tryz.underlying211
@[simp] theorem tagg211 : tagg Tryz.prog 211 = some false := by kernel_rfl
@[simp] theorem tsize211 : tsize Tryz.prog 211 = some 1 := by kernel_rfl
@[simp] theorem tbytes211 : tbytes Tryz.prog 211 = some 24 := by kernel_rfl
@[simp] theorem tzero211 : tzero Tryz.prog 211 = some (.emp 0) := by kernel_rfl
@[simp] theorem telem211 : telem Tryz.prog 211 = some 2 := by kernel_rfl
@[simp] theorem nofz211 : nofz Tryz.prog 211 = false := by kernel_rfl
attribute [simp] Tryz.underlying212
@[simp] theorem tagg212 : tagg Tryz.prog 212 = some false := by kernel_rfl
@[simp] theorem tsize212 : tsize Tryz.prog 212 = some 1 := by kernel_rfl
@[simp] theorem tbytes212 : tbytes Tryz.prog 212 = some 8 := by kernel_rfl
@[simp] theorem tzero212 : tzero Tryz.prog 212 = some (.sc (.nilFunc)) := by kernel_rfl
attribute [simp] Tryz.underlying213
@[simp] theorem tagg213 : tagg Tryz.prog 213 = some false := by kernel_rfl
@[simp] theorem tsize213 : tsize Tryz.prog 213 = some 1 := by kernel_rfl
@[simp] theorem tbytes213 : tbytes Tryz.prog 213 = some 4 := by kernel_rfl
@[simp] theorem tzero213 : tzero Tryz.prog 213 = some (.sc (.int .u32 0)) := by kernel_rfl
attribute [simp] Tryz.underlying215
@[simp] theorem tagg215 : tagg Tryz.prog 215 = some false := by kernel_rfl
@[simp] theorem tsize215 : tsize Tryz.prog 215 = some 1 := by kernel_rfl
@[simp] theorem tbytes215 : tbytes Tryz.prog 215 = some 8 := by kernel_rfl
@[simp] theorem tzero215 : tzero Tryz.prog 215 = some (.sc (.nilFunc)) := by kernel_rfl
attribute [simp] Tryz.underlying216
@[simp] theorem tagg216 : tagg Tryz.prog 216 = some false := by kernel_rfl
@[simp] theorem tsize216 : tsize Tryz.prog 216 = some 1 := by kernel_rfl
@[simp] theorem tbytes216 : tbytes Tryz.prog 216 = some 8 := by kernel_rfl
@[simp] theorem tzero216 : tzero Tryz.prog 216 = some (.sc (.nilFunc)) := by kernel_rfl
attribute [simp] Tryz.underlying217
@[simp] theorem tagg217 : tagg Tryz.prog 217 = some true := by kernel_rfl
@[simp] theorem tsize217 : tsize Tryz.prog 217 = some 4 := by kernel_rfl
@[simp] theorem tbytes217 : tbytes Tryz.prog 217 = some 40 := by kernel_rfl
@[simp] theorem tzero217 : tzero Tryz.prog 217 = some (.agg [.sc (.pointer Option.none), .sc (.pointer Option.none), .sc (.pointer Option.none), .sc (.string ⟨⟨[]⟩⟩)]) := by kernel_rfl
@[simp] theorem fieldAddr217_0 {id off : Nat} : afieldAddr Tryz.prog 217 (.ptr id off) 0 = some (.ptr id (off + 0)) := by simp [afieldAddr, tfield]
@[simp] theorem fieldAddr217_0c {x : AV} {off : Nat} : afieldAddr Tryz.prog 217 (.cptr x off) 0 = some (.cptr x (off + 0)) := by simp [afieldAddr, tfield]
@[simp] theorem fieldAddr217_1 {id off : Nat} : afieldAddr Tryz.prog 217 (.ptr id off) 1 = some (.ptr id (off + 1)) := by simp [afieldAddr, tfield]
@[simp] theorem fieldAddr217_1c {x : AV} {off : Nat} : afieldAddr Tryz.prog 217 (.cptr x off) 1 = some (.cptr x (off + 1)) := by simp [afieldAddr, tfield]
@[simp] theorem fieldAddr217_2 {id off : Nat} : afieldAddr Tryz.prog 217 (.ptr id off) 2 = some (.ptr id (off + 2)) := by simp [afieldAddr, tfield]
@[simp] theorem fieldAddr217_2c {x : AV} {off : Nat} : afieldAddr Tryz.prog 217 (.cptr x off) 2 = some (.cptr x (off + 2)) := by simp [afieldAddr, tfield]
@[simp] theorem fieldAddr217_3 {id off : Nat} : afieldAddr Tryz.prog 217 (.ptr id off) 3 = some (.ptr id (off + 3)) := by simp [afieldAddr, tfield]
@[simp] theorem fieldAddr217_3c {x : AV} {off : Nat} : afieldAddr Tryz.prog 217 (.cptr x off) 3 = some (.cptr x (off + 3)) := by simp [afieldAddr, tfield]
attribute [simp] Tryz.underlying218
@[simp] theorem tagg218 : tagg Tryz.prog 218 = some true := by kernel_rfl
@[simp] theorem tsize218 : tsize Tryz.prog 218 = some 4 := by kernel_rfl
@[simp] theorem tbytes218 : tbytes Tryz.prog 218 = some 40 := by kernel_rfl
@[simp] theorem tzero218 : tzero Tryz.prog 218 = some (.agg [.sc (.pointer Option.none), .sc (.pointer Option.none), .sc (.pointer Option.none), .sc (.string ⟨⟨[]⟩⟩)]) := by kernel_rfl
@[simp] theorem fieldAddr218_0 {id off : Nat} : afieldAddr Tryz.prog 218 (.ptr id off) 0 = some (.ptr id (off + 0)) := by simp [afieldAddr, tfield]
@[simp] theorem fieldAddr218_0c {x : AV} {off : Nat} : afieldAddr Tryz.prog 218 (.cptr x off) 0 = some (.cptr x (off + 0)) := by simp [afieldAddr, tfield]
@[simp] theorem fieldAddr218_1 {id off : Nat} : afieldAddr Tryz.prog 218 (.ptr id off) 1 = some (.ptr id (off + 1)) := by simp [afieldAddr, tfield]
@[simp] theorem fieldAddr218_1c {x : AV} {off : Nat} : afieldAddr Tryz.prog 218 (.cptr x off) 1 = some (.cptr x (off + 1)) := by simp [afieldAddr, tfield]
@[simp] theorem fieldAddr218_2 {id off : Nat} : afieldAddr Tryz.prog 218 (.ptr id off) 2 = some (.ptr id (off + 2)) := by simp [afieldAddr, tfield]
@[simp] theorem fieldAddr218_2c {x : AV} {off : Nat} : afieldAddr Tryz.prog 218 (.cptr x off) 2 = some (.cptr x (off + 2)) := by simp [afieldAddr, tfield]
@[simp] theorem fieldAddr218_3 {id off : Nat} : afieldAddr Tryz.prog 218 (.ptr id off) 3 = some (.ptr id (off + 3)) := by simp [afieldAddr, tfield]
@[simp] theorem fieldAddr218_3c {x : AV} {off : Nat} : afieldAddr Tryz.prog 218 (.cptr x off) 3 = some (.cptr x (off + 3)) := by simp [afieldAddr, tfield]
attribute [simp] Tryz.underlying219
@[simp] theorem tagg219 : tagg Tryz.prog 219 = some true := by kernel_rfl
@[simp] theorem tsize219 : tsize Tryz.prog 219 = some 0 := by kernel_rfl
@[simp] theorem tbytes219 : tbytes Tryz.prog 219 = some 0 := by kernel_rfl
@[simp] theorem tzero219 : tzero Tryz.prog 219 = some (.agg []) := by kernel_rfl
@[simp] theorem tarr219 : tarr Tryz.prog 219 = some (0, 16) := by kernel_rfl
attribute [simp] Tryz.underlying220
@[simp] theorem tagg220 : tagg Tryz.prog 220 = some true := by kernel_rfl
@[simp] theorem tsize220 : tsize Tryz.prog 220 = some 0 := by kernel_rfl
@[simp] theorem tbytes220 : tbytes Tryz.prog 220 = some 0 := by kernel_rfl
@[simp] theorem tzero220 : tzero Tryz.prog 220 = some (.agg []) := by kernel_rfl
attribute [simp] Tryz.underlying221
@[simp] theorem tagg221 : tagg Tryz.prog 221 = some true := by kernel_rfl
@[simp] theorem tsize221 : tsize Tryz.prog 221 = some 0 := by kernel_rfl
@[simp] theorem tbytes221 : tbytes Tryz.prog 221 = some 0 := by kernel_rfl
@[simp] theorem tzero221 : tzero Tryz.prog 221 = some (.agg []) := by kernel_rfl
attribute [simp] Tryz.underlying222
@[simp] theorem tagg222 : tagg Tryz.prog 222 = some false := by kernel_rfl
@[simp] theorem tsize222 : tsize Tryz.prog 222 = some 1 := by kernel_rfl
@[simp] theorem tbytes222 : tbytes Tryz.prog 222 = some 8 := by kernel_rfl
@[simp] theorem tzero222 : tzero Tryz.prog 222 = some (.sc (.nilFunc)) := by kernel_rfl
attribute [simp] Tryz.underlying223
@[simp] theorem tagg223 : tagg Tryz.prog 223 = some false := by kernel_rfl
@[simp] theorem tsize223 : tsize Tryz.prog 223 = some 1 := by kernel_rfl
@[simp] theorem tbytes223 : tbytes Tryz.prog 223 = some 1 := by kernel_rfl
@[simp] theorem tzero223 : tzero Tryz.prog 223 = some (.sc (.int .u8 0)) := by kernel_rfl
attribute [simp] Tryz.underlying224
@[simp] theorem tagg224 : tagg Tryz.prog 224 = some false := by kernel_rfl
@[simp] theorem tsize224 : tsize Tryz.prog 224 = some 1 := by kernel_rfl
@[simp] theorem tbytes224 : tbytes Tryz.prog 224 = some 1 := by kernel_rfl
@[simp] theorem tzero224 : tzero Tryz.prog 224 = some (.sc (.int .u8 0)) := by kernel_rfl
attribute [simp] Tryz.underlying225
@[simp] theorem tagg225 : tagg Tryz.prog 225 = some false := by kernel_rfl
@[simp] theorem tsize225 : tsize Tryz.prog 225 = some 1 := by kernel_rfl
@[simp] theorem tbytes225 : tbytes Tryz.prog 225 = some 8 := by kernel_rfl
@[simp] theorem tzero225 : tzero Tryz.prog 225 = some (.sc (.nilFunc)) := by kernel_rfl
attribute [simp] Tryz.underlying226
@[simp] theorem tagg226 : tagg Tryz.prog 226 = some false := by kernel_rfl
@[simp] theorem tsize226 : tsize Tryz.prog 226 = some 1 := by kernel_rfl
@[simp] theorem tbytes226 : tbytes Tryz.prog 226 = some 8 := by kernel_rfl
@[simp] theorem tzero226 : tzero Tryz.prog 226 = some (.sc (.pointer Option.none)) := by kernel_rfl
attribute [simp] Tryz.underlying227
@[simp] theorem tagg227 : tagg Tryz.prog 227 = some false := by kernel_rfl
@[simp] theorem tsize227 : tsize Tryz.prog 227 = some 1 := by kernel_rfl
@[simp] theorem tbytes227 : tbytes Tryz.prog 227 = some 4 := by kernel_rfl
@[simp] theorem tzero227 : tzero Tryz.prog 227 = some (.sc (.int .i32 0)) := by kernel_rfl
attribute [simp] Tryz.underlying228
@[simp] theorem tagg228 : tagg Tryz.prog 228 = some false := by kernel_rfl
@[simp] theorem tsize228 : tsize Tryz.prog 228 = some 1 := by kernel_rfl
@[simp] theorem tbytes228 : tbytes Tryz.prog 228 = some 4 := by kernel_rfl
@[simp] theorem tzero228 : tzero Tryz.prog 228 = some (.sc (.int .i32 0)) := by kernel_rfl
attribute [simp] Tryz.underlying229
@[simp] theorem tagg229 : tagg Tryz.prog 229 = some true := by kernel_rfl
@[simp] theorem tsize229 : tsize Tryz.prog 229 = some 11 := by kernel_rfl
@[simp] theorem tbytes229 : tbytes Tryz.prog 229 = some 48 := by kernel_rfl
@[simp] theorem tzero229 : tzero Tryz.prog 229 = some (.agg [.sc (.int .u64 0), .sc (.int .u64 0), .sc (.int .u32 0), .sc (.int .u8 0), .sc (.int .u8 0), .sc (.int .u8 0), .sc (.int .u8 0), .sc (.nilFunc), .sc (.pointer Option.none), .sc (.int .i32 0), .sc (.int .i32 0)]) := by kernel_rfl
@[simp] theorem fieldAddr229_0 {id off : Nat} : afieldAddr Tryz.prog 229 (.ptr id off) 0 = some (.ptr id (off + 0)) := by simp [afieldAddr, tfield]
@[simp] theorem fieldAddr229_0c {x : AV} {off : Nat} : afieldAddr Tryz.prog 229 (.cptr x off) 0 = some (.cptr x (off + 0)) := by simp [afieldAddr, tfield]
@[simp] theorem fieldAddr229_1 {id off : Nat} : afieldAddr Tryz.prog 229 (.ptr id off) 1 = some (.ptr id (off + 1)) := by simp [afieldAddr, tfield]
@[simp] theorem fieldAddr229_1c {x : AV} {off : Nat} : afieldAddr Tryz.prog 229 (.cptr x off) 1 = some (.cptr x (off + 1)) := by simp [afieldAddr, tfield]
@[simp] theorem fieldAddr229_2 {id off : Nat} : afieldAddr Tryz.prog 229 (.ptr id off) 2 = some (.ptr id (off + 2)) := by simp [afieldAddr, tfield]
@[simp] theorem fieldAddr229_2c {x : AV} {off : Nat} : afieldAddr Tryz.prog 229 (.cptr x off) 2 = some (.cptr x (off + 2)) := by simp [afieldAddr, tfield]
@[simp] theorem fieldAddr229_3 {id off : Nat} : afieldAddr Tryz.prog 229 (.ptr id off) 3 = some (.ptr id (off + 3)) := by simp [afieldAddr, tfield]
@[simp] theorem fieldAddr229_3c {x : AV} {off : Nat} : afieldAddr Tryz.prog 229 (.cptr x off) 3 = some (.cptr x (off + 3)) := by simp [afieldAddr, tfield]
@[simp] theorem fieldAddr229_4 {id off : Nat} : afieldAddr Tryz.prog 229 (.ptr id off) 4 = some (.ptr id (off + 4)) := by simp [afieldAddr, tfield]
@[simp] theorem fieldAddr229_4c {x : AV} {off : Nat} : afieldAddr Tryz.prog 229 (.cptr x off) 4 = some (.cptr x (off + 4)) := by simp [afieldAddr, tfield]
@[simp] theorem fieldAddr229_5 {id off : Nat} : afieldAddr Tryz.prog 229 (.ptr id off) 5 = some (.ptr id (off + 5)) := by simp [afieldAddr, tfield]
@[simp] theorem fieldAddr229_5c {x : AV} {off : Nat} : afieldAddr Tryz.prog 229 (.cptr x off) 5 = some (.cptr x (off + 5)) := by simp [afieldAddr, tfield]
@[simp] theorem fieldAddr229_6 {id off : Nat} : afieldAddr Tryz.prog 229 (.ptr id off) 6 = some (.ptr id (off + 6)) := by simp [afieldAddr, tfield]
@[simp] theorem fieldAddr229_6c {x : AV} {off : Nat} : afieldAddr Tryz.prog 229 (.cptr x off) 6 = some (.cptr x (off + 6)) := by simp [afieldAddr, tfield]
@[simp] theorem fieldAddr229_7 {id off : Nat} : afieldAddr Tryz.prog 229 (.ptr id off) 7 = some (.ptr id (off + 7)) := by simp [afieldAddr, tfield]
@[simp] theorem fieldAddr229_7c {x : AV} {off : Nat} : afieldAddr Tryz.prog 229 (.cptr x off) 7 = some (.cptr x (off + 7)) := by simp [afieldAddr, tfield]
@[simp] theorem fieldAddr229_8 {id off : Nat} : afieldAddr Tryz.prog 229 (.ptr id off) 8 = some (.ptr id (off + 8)) := by simp [afieldAddr, tfield]
@[simp] theorem fieldAddr229_8c {x : AV} {off : Nat} : afieldAddr Tryz.prog 229 (.cptr x off) 8 = some (.cptr x (off + 8)) := by simp [afieldAddr, tfield]
@[simp] theorem fieldAddr229_9 {id off : Nat} : afieldAddr Tryz.prog 229 (.ptr id off) 9 = some (.ptr id (off + 9)) := by simp [afieldAddr, tfield]
@[simp] theorem fieldAddr229_9c {x : AV} {off : Nat} : afieldAddr Tryz.prog 229 (.cptr x off) 9 = some (.cptr x (off + 9)) := by simp [afieldAddr, tfield]
@[simp] theorem fieldAddr229_10 {id off : Nat} : afieldAddr Tryz.prog 229 (.ptr id off) 10 = some (.ptr id (off + 10)) := by simp [afieldAddr, tfield]
@[simp] theorem fieldAddr229_10c {x : AV} {off : Nat} : afieldAddr Tryz.prog 229 (.cptr x off) 10 = some (.cptr x (off + 10)) := by simp [afieldAddr, tfield]
attribute [simp] Tryz.underlying230
@[simp] theorem tagg230 : tagg Tryz.prog 230 = some true := by kernel_rfl
@[simp] theorem tsize230 : tsize Tryz.prog 230 = some 11 := by kernel_rfl
@[simp] theorem tbytes230 : tbytes Tryz.prog 230 = some 48 := by kernel_rfl
@[simp] theorem tzero230 : tzero Tryz.prog 230 = some (.agg [.sc (.int .u64 0), .sc (.int .u64 0), .sc (.int .u32 0), .sc (.int .u8 0), .sc (.int .u8 0), .sc (.int .u8 0), .sc (.int .u8 0), .sc (.nilFunc), .sc (.pointer Option.none), .sc (.int .i32 0), .sc (.int .i32 0)]) := by kernel_rfl
@[simp] theorem fieldAddr230_0 {id off : Nat} : afieldAddr Tryz.prog 230 (.ptr id off) 0 = some (.ptr id (off + 0)) := by simp [afieldAddr, tfield]
@[simp] theorem fieldAddr230_0c {x : AV} {off : Nat} : afieldAddr Tryz.prog 230 (.cptr x off) 0 = some (.cptr x (off + 0)) := by simp [afieldAddr, tfield]
@[simp] theorem fieldAddr230_1 {id off : Nat} : afieldAddr Tryz.prog 230 (.ptr id off) 1 = some (.ptr id (off + 1)) := by simp [afieldAddr, tfield]
@[simp] theorem fieldAddr230_1c {x : AV} {off : Nat} : afieldAddr Tryz.prog 230 (.cptr x off) 1 = some (.cptr x (off + 1)) := by simp [afieldAddr, tfield]
@[simp] theorem fieldAddr230_2 {id off : Nat} : afieldAddr Tryz.prog 230 (.ptr id off) 2 = some (.ptr id (off + 2)) := by simp [afieldAddr, tfield]
@[simp] theorem fieldAddr230_2c {x : AV} {off : Nat} : afieldAddr Tryz.prog 230 (.cptr x off) 2 = some (.cptr x (off + 2)) := by simp [afieldAddr, tfield]
@[simp] theorem fieldAddr230_3 {id off : Nat} : afieldAddr Tryz.prog 230 (.ptr id off) 3 = some (.ptr id (off + 3)) := by simp [afieldAddr, tfield]
@[simp] theorem fieldAddr230_3c {x : AV} {off : Nat} : afieldAddr Tryz.prog 230 (.cptr x off) 3 = some (.cptr x (off + 3)) := by simp [afieldAddr, tfield]
@[simp] theorem fieldAddr230_4 {id off : Nat} : afieldAddr Tryz.prog 230 (.ptr id off) 4 = some (.ptr id (off + 4)) := by simp [afieldAddr, tfield]
@[simp] theorem fieldAddr230_4c {x : AV} {off : Nat} : afieldAddr Tryz.prog 230 (.cptr x off) 4 = some (.cptr x (off + 4)) := by simp [afieldAddr, tfield]
@[simp] theorem fieldAddr230_5 {id off : Nat} : afieldAddr Tryz.prog 230 (.ptr id off) 5 = some (.ptr id (off + 5)) := by simp [afieldAddr, tfield]
@[simp] theorem fieldAddr230_5c {x : AV} {off : Nat} : afieldAddr Tryz.prog 230 (.cptr x off) 5 = some (.cptr x (off + 5)) := by simp [afieldAddr, tfield]
@[simp] theorem fieldAddr230_6 {id off : Nat} : afieldAddr Tryz.prog 230 (.ptr id off) 6 = some (.ptr id (off + 6)) := by simp [afieldAddr, tfield]
@[simp] theorem fieldAddr230_6c {x : AV} {off : Nat} : afieldAddr Tryz.prog 230 (.cptr x off) 6 = some (.cptr x (off + 6)) := by simp [afieldAddr, tfield]
@[simp] theorem fieldAddr230_7 {id off : Nat} : afieldAddr Tryz.prog 230 (.ptr id off) 7 = some (.ptr id (off + 7)) := by simp [afieldAddr, tfield]
@[simp] theorem fieldAddr230_7c {x : AV} {off : Nat} : afieldAddr Tryz.prog 230 (.cptr x off) 7 = some (.cptr x (off + 7)) := by simp [afieldAddr, tfield]
@[simp] theorem fieldAddr230_8 {id off : Nat} : afieldAddr Tryz.prog 230 (.ptr id off) 8 = some (.ptr id (off + 8)) := by simp [afieldAddr, tfield]
@[simp] theorem fieldAddr230_8c {x : AV} {off : Nat} : afieldAddr Tryz.prog 230 (.cptr x off) 8 = some (.cptr x (off + 8)) := by simp [afieldAddr, tfield]
@[simp] theorem fieldAddr230_9 {id off : Nat} : afieldAddr Tryz.prog 230 (.ptr id off) 9 = some (.ptr id (off + 9)) := by simp [afieldAddr, tfield]
@[simp] theorem fieldAddr230_9c {x : AV} {off : Nat} : afieldAddr Tryz.prog 230 (.cptr x off) 9 = some (.cptr x (off + 9)) := by simp [afieldAddr, tfield]
@[simp] theorem fieldAddr230_10 {id off : Nat} : afieldAddr Tryz.prog 230 (.ptr id off) 10 = some (.ptr id (off + 10)) := by simp [afieldAddr, tfield]
@[simp] theorem fieldAddr230_10c {x : AV} {off : Nat} : afieldAddr Tryz.prog 230 (.cptr x off) 10 = some (.cptr x (off + 10)) := by simp [afieldAddr, tfield]
attribute [simp] Tryz.underlying231
@[simp] theorem tagg231 : tagg Tryz.prog 231 = some false := by kernel_rfl
@[simp] theorem tsize231 : tsize Tryz.prog 231 = some 1 := by kernel_rfl
@[simp] theorem tbytes231 : tbytes Tryz.prog 231 = some 8 := by kernel_rfl
@[simp] theorem tzero231 : tzero Tryz.prog 231 = some (.sc (.nilFunc)) := by kernel_rfl
theorem el31 : ElemOf Tryz.prog 31 2 true := ⟨⟨35, 24, .agg [.sc (.int .i64 0), .sc (.string ⟨⟨[]⟩⟩)], telem31, tsize35, tbytes35, tzero35, tagg35, by kernel_rfl, by decide, by kernel_rfl⟩, by decide⟩
theorem el32 : ElemOf Tryz.prog 32 4 true := ⟨⟨24, 40, .agg [.sc (.int .i64 0), .sc (.string ⟨⟨[]⟩⟩), .sc (.int .i64 0), .sc (.int .i64 0)], telem32, tsize24, tbytes24, tzero24, tagg24, by kernel_rfl, by decide, by kernel_rfl⟩, by decide⟩
theorem el43 : ElemOf Tryz.prog 43 6 true := ⟨⟨56, 104, .agg zeroCells, telem43, tsize56, tbytes56, tzero56, tagg56, by kernel_rfl, by decide, by kernel_rfl⟩, by decide⟩
theorem el54 : ElemOf Tryz.prog 54 1 false := ⟨⟨3, 8, .sc (.int .i64 0), telem54, tsize3, tbytes3, tzero3, tagg3, by kernel_rfl, by decide, by kernel_rfl⟩, by decide⟩
theorem el63 : ElemOf Tryz.prog 63 2 true := ⟨⟨68, 32, .agg [.sc (.int .i64 0), .emp 0], telem63, tsize68, tbytes68, tzero68, tagg68, by kernel_rfl, by decide, by kernel_rfl⟩, by decide⟩
theorem el66 : ElemOf Tryz.prog 66 2 true := ⟨⟨51, 16, .agg [.sc (.int .i64 0), .sc (.int .i64 0)], telem66, tsize51, tbytes51, tzero51, tagg51, by kernel_rfl, by decide, by kernel_rfl⟩, by decide⟩
theorem el74 : ElemOf Tryz.prog 74 4 true := ⟨⟨78, 64, .agg [.sc (.int .i64 0), .sc (.int .i64 0), .emp 0, .emp 0], telem74, tsize78, tbytes78, tzero78, tagg78, by kernel_rfl, by decide, by kernel_rfl⟩, by decide⟩
theorem el76 : ElemOf Tryz.prog 76 1 false := ⟨⟨5, 1, .sc (.int .u8 0), telem76, tsize5, tbytes5, tzero5, tagg5, by kernel_rfl, by decide, by kernel_rfl⟩, by decide⟩
theorem el85 : ElemOf Tryz.prog 85 1 false := ⟨⟨9, 16, .sc (.string ⟨⟨[]⟩⟩), telem85, tsize9, tbytes9, tzero9, tagg9, by kernel_rfl, by decide, by kernel_rfl⟩, by decide⟩
theorem el161 : ElemOf Tryz.prog 161 1 false := ⟨⟨43, 24, .emp 0, telem161, tsize43, tbytes43, tzero43, tagg43, by kernel_rfl, by decide, by kernel_rfl⟩, by decide⟩
theorem el175 : ElemOf Tryz.prog 175 1 false := ⟨⟨66, 24, .emp 0, telem175, tsize66, tbytes66, tzero66, tagg66, by kernel_rfl, by decide, by kernel_rfl⟩, by decide⟩
theorem el211 : ElemOf Tryz.prog 211 1 false := ⟨⟨2, 8, .sc (.int .i64 0), telem211, tsize2, tbytes2, tzero2, tagg2, by kernel_rfl, by decide, by kernel_rfl⟩, by decide⟩
end Go.Proofs.YtnhcmcfgemoehaaGreat
