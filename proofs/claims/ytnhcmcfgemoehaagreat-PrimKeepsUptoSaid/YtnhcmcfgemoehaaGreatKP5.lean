import Derived.Test.YtnhcmcfgemoehaaGreatKP4
import Derived.Test.YtnhcmcfgemoehaaGreatRows
import Derived.ProofKit
/- What the program's types are, by a program. -/
set_option linter.unusedSimpArgs false
set_option linter.unusedVariables false
set_option linter.unusedSectionVars false
namespace Go.Proofs.YtnhcmcfgemoehaaGreat
open Go.V
attribute [simp] fzx_f fzx_t
/-- The zero datum's cells. -/
def zeroCells : List AV := [.sc (.int .i64 0), .sc (.int .i64 0), .sc (.string ⟨⟨[]⟩⟩), .emp 0, .emp 0, .emp 0]
@[simp] theorem zeroCells_length : zeroCells.length = 6 := rfl
@[simp] theorem zeroCells_take : List.take 6 zeroCells = zeroCells := rfl
@[simp] theorem zeroCells_drop : List.drop 6 zeroCells = [] := rfl
@[simp] theorem okc_nilFunc : AV.okc (.sc .nilFunc) = true := Eq.trans rfl rfl
@[simp] theorem cells_nilFunc : AV.cells (.sc .nilFunc) = [.sc .nilFunc] := Eq.trans rfl rfl
@[simp] theorem okc_pointer {x : Option Addr} : AV.okc (.sc (.pointer x)) = true := Eq.trans rfl rfl
@[simp] theorem cells_pointer {x : Option Addr} : AV.cells (.sc (.pointer x)) = [.sc (.pointer x)] := Eq.trans rfl rfl
@[simp] theorem okc_map {x : Option Nat} : AV.okc (.sc (.map x)) = true := Eq.trans rfl rfl
@[simp] theorem cells_map {x : Option Nat} : AV.cells (.sc (.map x)) = [.sc (.map x)] := Eq.trans rfl rfl
@[simp] theorem okc_mp {x : Nat} : AV.okc (.mp x) = true := Eq.trans rfl rfl
@[simp] theorem cells_mp {x : Nat} : AV.cells (.mp x) = [.mp x] := Eq.trans rfl rfl
@[simp] theorem okc_iface {t : TypeId} {x : AV} : AV.okc (.iface t x) = true := Eq.trans rfl rfl
@[simp] theorem cells_iface {t : TypeId} {x : AV} : AV.cells (.iface t x) = [.iface t x] := Eq.trans rfl rfl
@[simp] theorem okc_nilIface : AV.okc (.sc .nilIface) = true := Eq.trans rfl rfl
@[simp] theorem cells_nilIface : AV.cells (.sc .nilIface) = [.sc .nilIface] := Eq.trans rfl rfl
attribute [simp] Tryz.underlying1
@[simp] theorem tagg1 : tagg Tryz.prog 1 = some false := by kernel_rfl
@[simp] theorem tsize1 : tsize Tryz.prog 1 = some 1 := by kernel_rfl
@[simp] theorem tbytes1 : tbytes Tryz.prog 1 = some 8 := by kernel_rfl
@[simp] theorem tzero1 : tzero Tryz.prog 1 = some (.sc (.nilFunc)) := by kernel_rfl
attribute [simp] Tryz.underlying2
@[simp] theorem tagg2 : tagg Tryz.prog 2 = some false := by kernel_rfl
@[simp] theorem tsize2 : tsize Tryz.prog 2 = some 1 := by kernel_rfl
@[simp] theorem tbytes2 : tbytes Tryz.prog 2 = some 8 := by kernel_rfl
@[simp] theorem tzero2 : tzero Tryz.prog 2 = some (.sc (.int .i64 0)) := by kernel_rfl
attribute [simp] Tryz.underlying3
@[simp] theorem tagg3 : tagg Tryz.prog 3 = some false := by kernel_rfl
@[simp] theorem tsize3 : tsize Tryz.prog 3 = some 1 := by kernel_rfl
@[simp] theorem tbytes3 : tbytes Tryz.prog 3 = some 8 := by kernel_rfl
@[simp] theorem tzero3 : tzero Tryz.prog 3 = some (.sc (.int .i64 0)) := by kernel_rfl
attribute [simp] Tryz.underlying4
@[simp] theorem tagg4 : tagg Tryz.prog 4 = some false := by kernel_rfl
@[simp] theorem tsize4 : tsize Tryz.prog 4 = some 1 := by kernel_rfl
@[simp] theorem tbytes4 : tbytes Tryz.prog 4 = some 1 := by kernel_rfl
@[simp] theorem tzero4 : tzero Tryz.prog 4 = some (.sc (.bool false)) := by kernel_rfl
attribute [simp] Tryz.underlying5
@[simp] theorem tagg5 : tagg Tryz.prog 5 = some false := by kernel_rfl
@[simp] theorem tsize5 : tsize Tryz.prog 5 = some 1 := by kernel_rfl
@[simp] theorem tbytes5 : tbytes Tryz.prog 5 = some 1 := by kernel_rfl
@[simp] theorem tzero5 : tzero Tryz.prog 5 = some (.sc (.int .u8 0)) := by kernel_rfl
attribute [simp] Tryz.underlying6
@[simp] theorem tagg6 : tagg Tryz.prog 6 = some false := by kernel_rfl
@[simp] theorem tsize6 : tsize Tryz.prog 6 = some 1 := by kernel_rfl
@[simp] theorem tbytes6 : tbytes Tryz.prog 6 = some 1 := by kernel_rfl
@[simp] theorem tzero6 : tzero Tryz.prog 6 = some (.sc (.int .u8 0)) := by kernel_rfl
attribute [simp] Tryz.underlying7
@[simp] theorem tagg7 : tagg Tryz.prog 7 = some true := by kernel_rfl
@[simp] theorem tsize7 : tsize Tryz.prog 7 = some 4 := by kernel_rfl
@[simp] theorem tbytes7 : tbytes Tryz.prog 7 = some 24 := by kernel_rfl
@[simp] theorem tzero7 : tzero Tryz.prog 7 = some (.agg [.sc (.int .i64 0), .sc (.int .i64 0), .sc (.bool false), .sc (.int .u8 0)]) := by kernel_rfl
@[simp] theorem fieldAddr7_0 {id off : Nat} : afieldAddr Tryz.prog 7 (.ptr id off) 0 = some (.ptr id (off + 0)) := by simp [afieldAddr, tfield]
@[simp] theorem fieldAddr7_0c {x : AV} {off : Nat} : afieldAddr Tryz.prog 7 (.cptr x off) 0 = some (.cptr x (off + 0)) := by simp [afieldAddr, tfield]
@[simp] theorem fieldAddr7_1 {id off : Nat} : afieldAddr Tryz.prog 7 (.ptr id off) 1 = some (.ptr id (off + 1)) := by simp [afieldAddr, tfield]
@[simp] theorem fieldAddr7_1c {x : AV} {off : Nat} : afieldAddr Tryz.prog 7 (.cptr x off) 1 = some (.cptr x (off + 1)) := by simp [afieldAddr, tfield]
@[simp] theorem fieldAddr7_2 {id off : Nat} : afieldAddr Tryz.prog 7 (.ptr id off) 2 = some (.ptr id (off + 2)) := by simp [afieldAddr, tfield]
@[simp] theorem fieldAddr7_2c {x : AV} {off : Nat} : afieldAddr Tryz.prog 7 (.cptr x off) 2 = some (.cptr x (off + 2)) := by simp [afieldAddr, tfield]
@[simp] theorem fieldAddr7_3 {id off : Nat} : afieldAddr Tryz.prog 7 (.ptr id off) 3 = some (.ptr id (off + 3)) := by simp [afieldAddr, tfield]
@[simp] theorem fieldAddr7_3c {x : AV} {off : Nat} : afieldAddr Tryz.prog 7 (.cptr x off) 3 = some (.cptr x (off + 3)) := by simp [afieldAddr, tfield]
attribute [simp] Tryz.underlying8
@[simp] theorem tagg8 : tagg Tryz.prog 8 = some true := by kernel_rfl
@[simp] theorem tsize8 : tsize Tryz.prog 8 = some 4 := by kernel_rfl
@[simp] theorem tbytes8 : tbytes Tryz.prog 8 = some 24 := by kernel_rfl
@[simp] theorem tzero8 : tzero Tryz.prog 8 = some (.agg [.sc (.int .i64 0), .sc (.int .i64 0), .sc (.bool false), .sc (.int .u8 0)]) := by kernel_rfl
@[simp] theorem fieldAddr8_0 {id off : Nat} : afieldAddr Tryz.prog 8 (.ptr id off) 0 = some (.ptr id (off + 0)) := by simp [afieldAddr, tfield]
@[simp] theorem fieldAddr8_0c {x : AV} {off : Nat} : afieldAddr Tryz.prog 8 (.cptr x off) 0 = some (.cptr x (off + 0)) := by simp [afieldAddr, tfield]
@[simp] theorem fieldAddr8_1 {id off : Nat} : afieldAddr Tryz.prog 8 (.ptr id off) 1 = some (.ptr id (off + 1)) := by simp [afieldAddr, tfield]
@[simp] theorem fieldAddr8_1c {x : AV} {off : Nat} : afieldAddr Tryz.prog 8 (.cptr x off) 1 = some (.cptr x (off + 1)) := by simp [afieldAddr, tfield]
@[simp] theorem fieldAddr8_2 {id off : Nat} : afieldAddr Tryz.prog 8 (.ptr id off) 2 = some (.ptr id (off + 2)) := by simp [afieldAddr, tfield]
@[simp] theorem fieldAddr8_2c {x : AV} {off : Nat} : afieldAddr Tryz.prog 8 (.cptr x off) 2 = some (.cptr x (off + 2)) := by simp [afieldAddr, tfield]
@[simp] theorem fieldAddr8_3 {id off : Nat} : afieldAddr Tryz.prog 8 (.ptr id off) 3 = some (.ptr id (off + 3)) := by simp [afieldAddr, tfield]
@[simp] theorem fieldAddr8_3c {x : AV} {off : Nat} : afieldAddr Tryz.prog 8 (.cptr x off) 3 = some (.cptr x (off + 3)) := by simp [afieldAddr, tfield]
attribute [simp] Tryz.underlying9
@[simp] theorem tagg9 : tagg Tryz.prog 9 = some false := by kernel_rfl
@[simp] theorem tsize9 : tsize Tryz.prog 9 = some 1 := by kernel_rfl
@[simp] theorem tbytes9 : tbytes Tryz.prog 9 = some 16 := by kernel_rfl
@[simp] theorem tzero9 : tzero Tryz.prog 9 = some (.sc (.string ⟨⟨[]⟩⟩)) := by kernel_rfl
attribute [simp] Tryz.underlying10
@[simp] theorem tagg10 : tagg Tryz.prog 10 = some false := by kernel_rfl
@[simp] theorem tsize10 : tsize Tryz.prog 10 = some 1 := by kernel_rfl
@[simp] theorem tbytes10 : tbytes Tryz.prog 10 = some 16 := by kernel_rfl
@[simp] theorem tzero10 : tzero Tryz.prog 10 = some (.sc (.string ⟨⟨[]⟩⟩)) := by kernel_rfl
attribute [simp] Tryz.underlying11
@[simp] theorem tagg11 : tagg Tryz.prog 11 = some false := by kernel_rfl
@[simp] theorem tsize11 : tsize Tryz.prog 11 = some 1 := by kernel_rfl
@[simp] theorem tbytes11 : tbytes Tryz.prog 11 = some 16 := by kernel_rfl
@[simp] theorem tzero11 : tzero Tryz.prog 11 = some (.sc (.string ⟨⟨[]⟩⟩)) := by kernel_rfl
attribute [simp] Tryz.underlying12
@[simp] theorem tagg12 : tagg Tryz.prog 12 = some false := by kernel_rfl
@[simp] theorem tsize12 : tsize Tryz.prog 12 = some 1 := by kernel_rfl
@[simp] theorem tbytes12 : tbytes Tryz.prog 12 = some 8 := by kernel_rfl
@[simp] theorem tzero12 : tzero Tryz.prog 12 = some (.sc (.int .u64 0)) := by kernel_rfl
attribute [simp] Tryz.underlying13
@[simp] theorem tagg13 : tagg Tryz.prog 13 = some true := by kernel_rfl
@[simp] theorem tsize13 : tsize Tryz.prog 13 = some 2 := by kernel_rfl
@[simp] theorem tbytes13 : tbytes Tryz.prog 13 = some 24 := by kernel_rfl
@[simp] theorem tzero13 : tzero Tryz.prog 13 = some (.agg [.sc (.string ⟨⟨[]⟩⟩), .sc (.int .u64 0)]) := by kernel_rfl
@[simp] theorem fieldAddr13_0 {id off : Nat} : afieldAddr Tryz.prog 13 (.ptr id off) 0 = some (.ptr id (off + 0)) := by simp [afieldAddr, tfield]
@[simp] theorem fieldAddr13_0c {x : AV} {off : Nat} : afieldAddr Tryz.prog 13 (.cptr x off) 0 = some (.cptr x (off + 0)) := by simp [afieldAddr, tfield]
@[simp] theorem fieldAddr13_1 {id off : Nat} : afieldAddr Tryz.prog 13 (.ptr id off) 1 = some (.ptr id (off + 1)) := by simp [afieldAddr, tfield]
@[simp] theorem fieldAddr13_1c {x : AV} {off : Nat} : afieldAddr Tryz.prog 13 (.cptr x off) 1 = some (.cptr x (off + 1)) := by simp [afieldAddr, tfield]
attribute [simp] Tryz.underlying14
@[simp] theorem tagg14 : tagg Tryz.prog 14 = some true := by kernel_rfl
@[simp] theorem tsize14 : tsize Tryz.prog 14 = some 2 := by kernel_rfl
@[simp] theorem tbytes14 : tbytes Tryz.prog 14 = some 24 := by kernel_rfl
@[simp] theorem tzero14 : tzero Tryz.prog 14 = some (.agg [.sc (.string ⟨⟨[]⟩⟩), .sc (.int .u64 0)]) := by kernel_rfl
@[simp] theorem fieldAddr14_0 {id off : Nat} : afieldAddr Tryz.prog 14 (.ptr id off) 0 = some (.ptr id (off + 0)) := by simp [afieldAddr, tfield]
@[simp] theorem fieldAddr14_0c {x : AV} {off : Nat} : afieldAddr Tryz.prog 14 (.cptr x off) 0 = some (.cptr x (off + 0)) := by simp [afieldAddr, tfield]
@[simp] theorem fieldAddr14_1 {id off : Nat} : afieldAddr Tryz.prog 14 (.ptr id off) 1 = some (.ptr id (off + 1)) := by simp [afieldAddr, tfield]
@[simp] theorem fieldAddr14_1c {x : AV} {off : Nat} : afieldAddr Tryz.prog 14 (.cptr x off) 1 = some (.cptr x (off + 1)) := by simp [afieldAddr, tfield]
attribute [simp] Tryz.underlying15
@[simp] theorem tagg15 : tagg Tryz.prog 15 = some false := by kernel_rfl
@[simp] theorem tsize15 : tsize Tryz.prog 15 = some 1 := by kernel_rfl
@[simp] theorem tbytes15 : tbytes Tryz.prog 15 = some 8 := by kernel_rfl
@[simp] theorem tzero15 : tzero Tryz.prog 15 = some (.sc (.pointer Option.none)) := by kernel_rfl
attribute [simp] Tryz.underlying16
@[simp] theorem tagg16 : tagg Tryz.prog 16 = some false := by kernel_rfl
@[simp] theorem tsize16 : tsize Tryz.prog 16 = some 1 := by kernel_rfl
@[simp] theorem tbytes16 : tbytes Tryz.prog 16 = some 8 := by kernel_rfl
@[simp] theorem tzero16 : tzero Tryz.prog 16 = some (.sc (.pointer Option.none)) := by kernel_rfl
attribute [simp] Tryz.underlying17
@[simp] theorem tagg17 : tagg Tryz.prog 17 = some false := by kernel_rfl
@[simp] theorem tsize17 : tsize Tryz.prog 17 = some 1 := by kernel_rfl
@[simp] theorem tbytes17 : tbytes Tryz.prog 17 = some 8 := by kernel_rfl
@[simp] theorem tzero17 : tzero Tryz.prog 17 = some (.sc (.pointer Option.none)) := by kernel_rfl
attribute [simp] Tryz.underlying18
@[simp] theorem tagg18 : tagg Tryz.prog 18 = some true := by kernel_rfl
@[simp] theorem tsize18 : tsize Tryz.prog 18 = some 1 := by kernel_rfl
@[simp] theorem tbytes18 : tbytes Tryz.prog 18 = some 8 := by kernel_rfl
@[simp] theorem tzero18 : tzero Tryz.prog 18 = some (.agg [.sc (.pointer Option.none)]) := by kernel_rfl
@[simp] theorem fieldAddr18_0 {id off : Nat} : afieldAddr Tryz.prog 18 (.ptr id off) 0 = some (.ptr id (off + 0)) := by simp [afieldAddr, tfield]
@[simp] theorem fieldAddr18_0c {x : AV} {off : Nat} : afieldAddr Tryz.prog 18 (.cptr x off) 0 = some (.cptr x (off + 0)) := by simp [afieldAddr, tfield]
attribute [simp] Tryz.underlying19
@[simp] theorem tagg19 : tagg Tryz.prog 19 = some true := by kernel_rfl
@[simp] theorem tsize19 : tsize Tryz.prog 19 = some 1 := by kernel_rfl
@[simp] theorem tbytes19 : tbytes Tryz.prog 19 = some 8 := by kernel_rfl
@[simp] theorem tzero19 : tzero Tryz.prog 19 = some (.agg [.sc (.pointer Option.none)]) := by kernel_rfl
@[simp] theorem fieldAddr19_0 {id off : Nat} : afieldAddr Tryz.prog 19 (.ptr id off) 0 = some (.ptr id (off + 0)) := by simp [afieldAddr, tfield]
@[simp] theorem fieldAddr19_0c {x : AV} {off : Nat} : afieldAddr Tryz.prog 19 (.cptr x off) 0 = some (.cptr x (off + 0)) := by simp [afieldAddr, tfield]
attribute [simp] Tryz.underlying20
@[simp] theorem tagg20 : tagg Tryz.prog 20 = some false := by kernel_rfl
@[simp] theorem tsize20 : tsize Tryz.prog 20 = some 1 := by kernel_rfl
@[simp] theorem tbytes20 : tbytes Tryz.prog 20 = some 16 := by kernel_rfl
@[simp] theorem tzero20 : tzero Tryz.prog 20 = some (.sc (.nilIface)) := by kernel_rfl
attribute [simp] Tryz.underlying21
@[simp] theorem tagg21 : tagg Tryz.prog 21 = some false := by kernel_rfl
@[simp] theorem tsize21 : tsize Tryz.prog 21 = some 1 := by kernel_rfl
@[simp] theorem tbytes21 : tbytes Tryz.prog 21 = some 4 := by kernel_rfl
@[simp] theorem tzero21 : tzero Tryz.prog 21 = some (.sc (.int .i32 0)) := by kernel_rfl
attribute [simp] Tryz.underlying22
@[simp] theorem tagg22 : tagg Tryz.prog 22 = some false := by kernel_rfl
@[simp] theorem tsize22 : tsize Tryz.prog 22 = some 1 := by kernel_rfl
@[simp] theorem tbytes22 : tbytes Tryz.prog 22 = some 8 := by kernel_rfl
@[simp] theorem tzero22 : tzero Tryz.prog 22 = some (.sc (.nilFunc)) := by kernel_rfl
attribute [simp] Tryz.underlying23
@[simp] theorem tagg23 : tagg Tryz.prog 23 = some true := by kernel_rfl
@[simp] theorem tsize23 : tsize Tryz.prog 23 = some 4 := by kernel_rfl
@[simp] theorem tbytes23 : tbytes Tryz.prog 23 = some 40 := by kernel_rfl
@[simp] theorem tzero23 : tzero Tryz.prog 23 = some (.agg [.sc (.int .i64 0), .sc (.string ⟨⟨[]⟩⟩), .sc (.int .i64 0), .sc (.int .i64 0)]) := by kernel_rfl
@[simp] theorem fieldAddr23_0 {id off : Nat} : afieldAddr Tryz.prog 23 (.ptr id off) 0 = some (.ptr id (off + 0)) := by simp [afieldAddr, tfield]
@[simp] theorem fieldAddr23_0c {x : AV} {off : Nat} : afieldAddr Tryz.prog 23 (.cptr x off) 0 = some (.cptr x (off + 0)) := by simp [afieldAddr, tfield]
@[simp] theorem fieldAddr23_1 {id off : Nat} : afieldAddr Tryz.prog 23 (.ptr id off) 1 = some (.ptr id (off + 1)) := by simp [afieldAddr, tfield]
@[simp] theorem fieldAddr23_1c {x : AV} {off : Nat} : afieldAddr Tryz.prog 23 (.cptr x off) 1 = some (.cptr x (off + 1)) := by simp [afieldAddr, tfield]
@[simp] theorem fieldAddr23_2 {id off : Nat} : afieldAddr Tryz.prog 23 (.ptr id off) 2 = some (.ptr id (off + 2)) := by simp [afieldAddr, tfield]
@[simp] theorem fieldAddr23_2c {x : AV} {off : Nat} : afieldAddr Tryz.prog 23 (.cptr x off) 2 = some (.cptr x (off + 2)) := by simp [afieldAddr, tfield]
@[simp] theorem fieldAddr23_3 {id off : Nat} : afieldAddr Tryz.prog 23 (.ptr id off) 3 = some (.ptr id (off + 3)) := by simp [afieldAddr, tfield]
@[simp] theorem fieldAddr23_3c {x : AV} {off : Nat} : afieldAddr Tryz.prog 23 (.cptr x off) 3 = some (.cptr x (off + 3)) := by simp [afieldAddr, tfield]
attribute [simp] Tryz.underlying24
@[simp] theorem tagg24 : tagg Tryz.prog 24 = some true := by kernel_rfl
@[simp] theorem tsize24 : tsize Tryz.prog 24 = some 4 := by kernel_rfl
@[simp] theorem tbytes24 : tbytes Tryz.prog 24 = some 40 := by kernel_rfl
@[simp] theorem tzero24 : tzero Tryz.prog 24 = some (.agg [.sc (.int .i64 0), .sc (.string ⟨⟨[]⟩⟩), .sc (.int .i64 0), .sc (.int .i64 0)]) := by kernel_rfl
@[simp] theorem fieldAddr24_0 {id off : Nat} : afieldAddr Tryz.prog 24 (.ptr id off) 0 = some (.ptr id (off + 0)) := by simp [afieldAddr, tfield]
@[simp] theorem fieldAddr24_0c {x : AV} {off : Nat} : afieldAddr Tryz.prog 24 (.cptr x off) 0 = some (.cptr x (off + 0)) := by simp [afieldAddr, tfield]
@[simp] theorem fieldAddr24_1 {id off : Nat} : afieldAddr Tryz.prog 24 (.ptr id off) 1 = some (.ptr id (off + 1)) := by simp [afieldAddr, tfield]
@[simp] theorem fieldAddr24_1c {x : AV} {off : Nat} : afieldAddr Tryz.prog 24 (.cptr x off) 1 = some (.cptr x (off + 1)) := by simp [afieldAddr, tfield]
@[simp] theorem fieldAddr24_2 {id off : Nat} : afieldAddr Tryz.prog 24 (.ptr id off) 2 = some (.ptr id (off + 2)) := by simp [afieldAddr, tfield]
@[simp] theorem fieldAddr24_2c {x : AV} {off : Nat} : afieldAddr Tryz.prog 24 (.cptr x off) 2 = some (.cptr x (off + 2)) := by simp [afieldAddr, tfield]
@[simp] theorem fieldAddr24_3 {id off : Nat} : afieldAddr Tryz.prog 24 (.ptr id off) 3 = some (.ptr id (off + 3)) := by simp [afieldAddr, tfield]
@[simp] theorem fieldAddr24_3c {x : AV} {off : Nat} : afieldAddr Tryz.prog 24 (.cptr x off) 3 = some (.cptr x (off + 3)) := by simp [afieldAddr, tfield]
attribute [simp] Tryz.underlying26
@[simp] theorem tagg26 : tagg Tryz.prog 26 = some false := by kernel_rfl
@[simp] theorem tsize26 : tsize Tryz.prog 26 = some 1 := by kernel_rfl
@[simp] theorem tbytes26 : tbytes Tryz.prog 26 = some 8 := by kernel_rfl
@[simp] theorem tzero26 : tzero Tryz.prog 26 = some (.sc (.nilFunc)) := by kernel_rfl
attribute [simp] Tryz.underlying28
@[simp] theorem tagg28 : tagg Tryz.prog 28 = some false := by kernel_rfl
@[simp] theorem tsize28 : tsize Tryz.prog 28 = some 1 := by kernel_rfl
@[simp] theorem tbytes28 : tbytes Tryz.prog 28 = some 8 := by kernel_rfl
@[simp] theorem tzero28 : tzero Tryz.prog 28 = some (.sc (.nilFunc)) := by kernel_rfl
attribute [simp] Tryz.underlying30
@[simp] theorem tagg30 : tagg Tryz.prog 30 = some false := by kernel_rfl
@[simp] theorem tsize30 : tsize Tryz.prog 30 = some 1 := by kernel_rfl
@[simp] theorem tbytes30 : tbytes Tryz.prog 30 = some 8 := by kernel_rfl
@[simp] theorem tzero30 : tzero Tryz.prog 30 = some (.sc (.nilFunc)) := by kernel_rfl
attribute [simp] Tryz.underlying31
@[simp] theorem tagg31 : tagg Tryz.prog 31 = some false := by kernel_rfl
@[simp] theorem tsize31 : tsize Tryz.prog 31 = some 1 := by kernel_rfl
@[simp] theorem tbytes31 : tbytes Tryz.prog 31 = some 24 := by kernel_rfl
@[simp] theorem tzero31 : tzero Tryz.prog 31 = some (.emp 0) := by kernel_rfl
@[simp] theorem telem31 : telem Tryz.prog 31 = some 35 := by kernel_rfl
@[simp] theorem nofz31 : nofz Tryz.prog 31 = false := by kernel_rfl
attribute [simp] Tryz.underlying32
@[simp] theorem tagg32 : tagg Tryz.prog 32 = some false := by kernel_rfl
@[simp] theorem tsize32 : tsize Tryz.prog 32 = some 1 := by kernel_rfl
@[simp] theorem tbytes32 : tbytes Tryz.prog 32 = some 24 := by kernel_rfl
@[simp] theorem tzero32 : tzero Tryz.prog 32 = some (.emp 0) := by kernel_rfl
@[simp] theorem telem32 : telem Tryz.prog 32 = some 24 := by kernel_rfl
@[simp] theorem nofz32 : nofz Tryz.prog 32 = false := by kernel_rfl
attribute [simp] Tryz.underlying33
@[simp] theorem tagg33 : tagg Tryz.prog 33 = some false := by kernel_rfl
@[simp] theorem tsize33 : tsize Tryz.prog 33 = some 1 := by kernel_rfl
@[simp] theorem tbytes33 : tbytes Tryz.prog 33 = some 8 := by kernel_rfl
@[simp] theorem tzero33 : tzero Tryz.prog 33 = some (.sc (.nilFunc)) := by kernel_rfl
attribute [simp] Tryz.underlying34
@[simp] theorem tagg34 : tagg Tryz.prog 34 = some true := by kernel_rfl
@[simp] theorem tsize34 : tsize Tryz.prog 34 = some 2 := by kernel_rfl
@[simp] theorem tbytes34 : tbytes Tryz.prog 34 = some 24 := by kernel_rfl
@[simp] theorem tzero34 : tzero Tryz.prog 34 = some (.agg [.sc (.int .i64 0), .sc (.string ⟨⟨[]⟩⟩)]) := by kernel_rfl
@[simp] theorem fieldAddr34_0 {id off : Nat} : afieldAddr Tryz.prog 34 (.ptr id off) 0 = some (.ptr id (off + 0)) := by simp [afieldAddr, tfield]
@[simp] theorem fieldAddr34_0c {x : AV} {off : Nat} : afieldAddr Tryz.prog 34 (.cptr x off) 0 = some (.cptr x (off + 0)) := by simp [afieldAddr, tfield]
@[simp] theorem fieldAddr34_1 {id off : Nat} : afieldAddr Tryz.prog 34 (.ptr id off) 1 = some (.ptr id (off + 1)) := by simp [afieldAddr, tfield]
@[simp] theorem fieldAddr34_1c {x : AV} {off : Nat} : afieldAddr Tryz.prog 34 (.cptr x off) 1 = some (.cptr x (off + 1)) := by simp [afieldAddr, tfield]
attribute [simp] Tryz.underlying35
@[simp] theorem tagg35 : tagg Tryz.prog 35 = some true := by kernel_rfl
@[simp] theorem tsize35 : tsize Tryz.prog 35 = some 2 := by kernel_rfl
@[simp] theorem tbytes35 : tbytes Tryz.prog 35 = some 24 := by kernel_rfl
@[simp] theorem tzero35 : tzero Tryz.prog 35 = some (.agg [.sc (.int .i64 0), .sc (.string ⟨⟨[]⟩⟩)]) := by kernel_rfl
@[simp] theorem fieldAddr35_0 {id off : Nat} : afieldAddr Tryz.prog 35 (.ptr id off) 0 = some (.ptr id (off + 0)) := by simp [afieldAddr, tfield]
@[simp] theorem fieldAddr35_0c {x : AV} {off : Nat} : afieldAddr Tryz.prog 35 (.cptr x off) 0 = some (.cptr x (off + 0)) := by simp [afieldAddr, tfield]
@[simp] theorem fieldAddr35_1 {id off : Nat} : afieldAddr Tryz.prog 35 (.ptr id off) 1 = some (.ptr id (off + 1)) := by simp [afieldAddr, tfield]
@[simp] theorem fieldAddr35_1c {x : AV} {off : Nat} : afieldAddr Tryz.prog 35 (.cptr x off) 1 = some (.cptr x (off + 1)) := by simp [afieldAddr, tfield]
attribute [simp] Tryz.underlying36
@[simp] theorem tagg36 : tagg Tryz.prog 36 = some false := by kernel_rfl
@[simp] theorem tsize36 : tsize Tryz.prog 36 = some 1 := by kernel_rfl
@[simp] theorem tbytes36 : tbytes Tryz.prog 36 = some 8 := by kernel_rfl
@[simp] theorem tzero36 : tzero Tryz.prog 36 = some (.sc (.nilFunc)) := by kernel_rfl
attribute [simp] Tryz.underlying37
@[simp] theorem tagg37 : tagg Tryz.prog 37 = some false := by kernel_rfl
@[simp] theorem tsize37 : tsize Tryz.prog 37 = some 1 := by kernel_rfl
@[simp] theorem tbytes37 : tbytes Tryz.prog 37 = some 8 := by kernel_rfl
@[simp] theorem tzero37 : tzero Tryz.prog 37 = some (.sc (.nilFunc)) := by kernel_rfl
attribute [simp] Tryz.underlying38
@[simp] theorem tagg38 : tagg Tryz.prog 38 = some false := by kernel_rfl
@[simp] theorem tsize38 : tsize Tryz.prog 38 = some 1 := by kernel_rfl
@[simp] theorem tbytes38 : tbytes Tryz.prog 38 = some 8 := by kernel_rfl
@[simp] theorem tzero38 : tzero Tryz.prog 38 = some (.sc (.nilFunc)) := by kernel_rfl
attribute [simp] Tryz.underlying39
@[simp] theorem tagg39 : tagg Tryz.prog 39 = some false := by kernel_rfl
@[simp] theorem tsize39 : tsize Tryz.prog 39 = some 1 := by kernel_rfl
@[simp] theorem tbytes39 : tbytes Tryz.prog 39 = some 8 := by kernel_rfl
@[simp] theorem tzero39 : tzero Tryz.prog 39 = some (.sc (.nilFunc)) := by kernel_rfl
attribute [simp] Tryz.underlying40
@[simp] theorem tagg40 : tagg Tryz.prog 40 = some false := by kernel_rfl
@[simp] theorem tsize40 : tsize Tryz.prog 40 = some 1 := by kernel_rfl
@[simp] theorem tbytes40 : tbytes Tryz.prog 40 = some 8 := by kernel_rfl
@[simp] theorem tzero40 : tzero Tryz.prog 40 = some (.sc (.nilFunc)) := by kernel_rfl
attribute [simp] Tryz.underlying41
@[simp] theorem tagg41 : tagg Tryz.prog 41 = some false := by kernel_rfl
@[simp] theorem tsize41 : tsize Tryz.prog 41 = some 1 := by kernel_rfl
@[simp] theorem tbytes41 : tbytes Tryz.prog 41 = some 8 := by kernel_rfl
@[simp] theorem tzero41 : tzero Tryz.prog 41 = some (.sc (.nilFunc)) := by kernel_rfl
attribute [simp] Tryz.underlying42
@[simp] theorem tagg42 : tagg Tryz.prog 42 = some false := by kernel_rfl
@[simp] theorem tsize42 : tsize Tryz.prog 42 = some 1 := by kernel_rfl
@[simp] theorem tbytes42 : tbytes Tryz.prog 42 = some 8 := by kernel_rfl
@[simp] theorem tzero42 : tzero Tryz.prog 42 = some (.sc (.nilFunc)) := by kernel_rfl
attribute [simp] Tryz.underlying43
@[simp] theorem tagg43 : tagg Tryz.prog 43 = some false := by kernel_rfl
@[simp] theorem tsize43 : tsize Tryz.prog 43 = some 1 := by kernel_rfl
@[simp] theorem tbytes43 : tbytes Tryz.prog 43 = some 24 := by kernel_rfl
@[simp] theorem tzero43 : tzero Tryz.prog 43 = some (.emp 0) := by kernel_rfl
@[simp] theorem telem43 : telem Tryz.prog 43 = some 56 := by kernel_rfl
@[simp] theorem nofz43 : nofz Tryz.prog 43 = false := by kernel_rfl
attribute [simp] Tryz.underlying44
@[simp] theorem tagg44 : tagg Tryz.prog 44 = some false := by kernel_rfl
@[simp] theorem tsize44 : tsize Tryz.prog 44 = some 1 := by kernel_rfl
@[simp] theorem tbytes44 : tbytes Tryz.prog 44 = some 2 := by kernel_rfl
@[simp] theorem tzero44 : tzero Tryz.prog 44 = some (.sc (.int .u16 0)) := by kernel_rfl
attribute [simp] Tryz.underlying45
@[simp] theorem tagg45 : tagg Tryz.prog 45 = some false := by kernel_rfl
@[simp] theorem tsize45 : tsize Tryz.prog 45 = some 1 := by kernel_rfl
@[simp] theorem tbytes45 : tbytes Tryz.prog 45 = some 8 := by kernel_rfl
@[simp] theorem tzero45 : tzero Tryz.prog 45 = some (.sc (.nilFunc)) := by kernel_rfl
attribute [simp] Tryz.underlying46
@[simp] theorem tagg46 : tagg Tryz.prog 46 = some false := by kernel_rfl
@[simp] theorem tsize46 : tsize Tryz.prog 46 = some 1 := by kernel_rfl
@[simp] theorem tbytes46 : tbytes Tryz.prog 46 = some 8 := by kernel_rfl
@[simp] theorem tzero46 : tzero Tryz.prog 46 = some (.sc (.pointer Option.none)) := by kernel_rfl
attribute [simp] Tryz.underlying47
@[simp] theorem tagg47 : tagg Tryz.prog 47 = some false := by kernel_rfl
@[simp] theorem tsize47 : tsize Tryz.prog 47 = some 1 := by kernel_rfl
@[simp] theorem tbytes47 : tbytes Tryz.prog 47 = some 8 := by kernel_rfl
@[simp] theorem tzero47 : tzero Tryz.prog 47 = some (.sc (.int .i64 0)) := by kernel_rfl
attribute [simp] Tryz.underlying49
@[simp] theorem tagg49 : tagg Tryz.prog 49 = some false := by kernel_rfl
@[simp] theorem tsize49 : tsize Tryz.prog 49 = some 1 := by kernel_rfl
@[simp] theorem tbytes49 : tbytes Tryz.prog 49 = some 8 := by kernel_rfl
@[simp] theorem tzero49 : tzero Tryz.prog 49 = some (.sc (.nilFunc)) := by kernel_rfl
attribute [simp] Tryz.underlying50
@[simp] theorem tagg50 : tagg Tryz.prog 50 = some true := by kernel_rfl
@[simp] theorem tsize50 : tsize Tryz.prog 50 = some 2 := by kernel_rfl
@[simp] theorem tbytes50 : tbytes Tryz.prog 50 = some 16 := by kernel_rfl
@[simp] theorem tzero50 : tzero Tryz.prog 50 = some (.agg [.sc (.int .i64 0), .sc (.int .i64 0)]) := by kernel_rfl
@[simp] theorem fieldAddr50_0 {id off : Nat} : afieldAddr Tryz.prog 50 (.ptr id off) 0 = some (.ptr id (off + 0)) := by simp [afieldAddr, tfield]
@[simp] theorem fieldAddr50_0c {x : AV} {off : Nat} : afieldAddr Tryz.prog 50 (.cptr x off) 0 = some (.cptr x (off + 0)) := by simp [afieldAddr, tfield]
@[simp] theorem fieldAddr50_1 {id off : Nat} : afieldAddr Tryz.prog 50 (.ptr id off) 1 = some (.ptr id (off + 1)) := by simp [afieldAddr, tfield]
@[simp] theorem fieldAddr50_1c {x : AV} {off : Nat} : afieldAddr Tryz.prog 50 (.cptr x off) 1 = some (.cptr x (off + 1)) := by simp [afieldAddr, tfield]
attribute [simp] Tryz.underlying51
@[simp] theorem tagg51 : tagg Tryz.prog 51 = some true := by kernel_rfl
@[simp] theorem tsize51 : tsize Tryz.prog 51 = some 2 := by kernel_rfl
@[simp] theorem tbytes51 : tbytes Tryz.prog 51 = some 16 := by kernel_rfl
@[simp] theorem tzero51 : tzero Tryz.prog 51 = some (.agg [.sc (.int .i64 0), .sc (.int .i64 0)]) := by kernel_rfl
@[simp] theorem fieldAddr51_0 {id off : Nat} : afieldAddr Tryz.prog 51 (.ptr id off) 0 = some (.ptr id (off + 0)) := by simp [afieldAddr, tfield]
@[simp] theorem fieldAddr51_0c {x : AV} {off : Nat} : afieldAddr Tryz.prog 51 (.cptr x off) 0 = some (.cptr x (off + 0)) := by simp [afieldAddr, tfield]
@[simp] theorem fieldAddr51_1 {id off : Nat} : afieldAddr Tryz.prog 51 (.ptr id off) 1 = some (.ptr id (off + 1)) := by simp [afieldAddr, tfield]
@[simp] theorem fieldAddr51_1c {x : AV} {off : Nat} : afieldAddr Tryz.prog 51 (.cptr x off) 1 = some (.cptr x (off + 1)) := by simp [afieldAddr, tfield]
attribute [simp] Tryz.underlying53
@[simp] theorem tagg53 : tagg Tryz.prog 53 = some false := by kernel_rfl
@[simp] theorem tsize53 : tsize Tryz.prog 53 = some 1 := by kernel_rfl
@[simp] theorem tbytes53 : tbytes Tryz.prog 53 = some 8 := by kernel_rfl
@[simp] theorem tzero53 : tzero Tryz.prog 53 = some (.sc (.nilFunc)) := by kernel_rfl
attribute [simp] Tryz.underlying54
@[simp] theorem tagg54 : tagg Tryz.prog 54 = some false := by kernel_rfl
@[simp] theorem tsize54 : tsize Tryz.prog 54 = some 1 := by kernel_rfl
@[simp] theorem tbytes54 : tbytes Tryz.prog 54 = some 24 := by kernel_rfl
@[simp] theorem tzero54 : tzero Tryz.prog 54 = some (.emp 0) := by kernel_rfl
@[simp] theorem telem54 : telem Tryz.prog 54 = some 3 := by kernel_rfl
@[simp] theorem nofz54 : nofz Tryz.prog 54 = false := by kernel_rfl
attribute [simp] Tryz.underlying55
@[simp] theorem tagg55 : tagg Tryz.prog 55 = some true := by kernel_rfl
@[simp] theorem tsize55 : tsize Tryz.prog 55 = some 6 := by kernel_rfl
@[simp] theorem tbytes55 : tbytes Tryz.prog 55 = some 104 := by kernel_rfl
@[simp] theorem tzero55 : tzero Tryz.prog 55 = some (.agg [.sc (.int .i64 0), .sc (.int .i64 0), .sc (.string ⟨⟨[]⟩⟩), .emp 0, .emp 0, .emp 0]) := by kernel_rfl
@[simp] theorem fieldAddr55_0 {id off : Nat} : afieldAddr Tryz.prog 55 (.ptr id off) 0 = some (.ptr id (off + 0)) := by simp [afieldAddr, tfield]
@[simp] theorem fieldAddr55_0c {x : AV} {off : Nat} : afieldAddr Tryz.prog 55 (.cptr x off) 0 = some (.cptr x (off + 0)) := by simp [afieldAddr, tfield]
@[simp] theorem fieldAddr55_1 {id off : Nat} : afieldAddr Tryz.prog 55 (.ptr id off) 1 = some (.ptr id (off + 1)) := by simp [afieldAddr, tfield]
@[simp] theorem fieldAddr55_1c {x : AV} {off : Nat} : afieldAddr Tryz.prog 55 (.cptr x off) 1 = some (.cptr x (off + 1)) := by simp [afieldAddr, tfield]
@[simp] theorem fieldAddr55_2 {id off : Nat} : afieldAddr Tryz.prog 55 (.ptr id off) 2 = some (.ptr id (off + 2)) := by simp [afieldAddr, tfield]
@[simp] theorem fieldAddr55_2c {x : AV} {off : Nat} : afieldAddr Tryz.prog 55 (.cptr x off) 2 = some (.cptr x (off + 2)) := by simp [afieldAddr, tfield]
@[simp] theorem fieldAddr55_3 {id off : Nat} : afieldAddr Tryz.prog 55 (.ptr id off) 3 = some (.ptr id (off + 3)) := by simp [afieldAddr, tfield]
@[simp] theorem fieldAddr55_3c {x : AV} {off : Nat} : afieldAddr Tryz.prog 55 (.cptr x off) 3 = some (.cptr x (off + 3)) := by simp [afieldAddr, tfield]
@[simp] theorem fieldAddr55_4 {id off : Nat} : afieldAddr Tryz.prog 55 (.ptr id off) 4 = some (.ptr id (off + 4)) := by simp [afieldAddr, tfield]
@[simp] theorem fieldAddr55_4c {x : AV} {off : Nat} : afieldAddr Tryz.prog 55 (.cptr x off) 4 = some (.cptr x (off + 4)) := by simp [afieldAddr, tfield]
@[simp] theorem fieldAddr55_5 {id off : Nat} : afieldAddr Tryz.prog 55 (.ptr id off) 5 = some (.ptr id (off + 5)) := by simp [afieldAddr, tfield]
@[simp] theorem fieldAddr55_5c {x : AV} {off : Nat} : afieldAddr Tryz.prog 55 (.cptr x off) 5 = some (.cptr x (off + 5)) := by simp [afieldAddr, tfield]
attribute [simp] Tryz.underlying56
@[simp] theorem tagg56 : tagg Tryz.prog 56 = some true := by kernel_rfl
@[simp] theorem tsize56 : tsize Tryz.prog 56 = some 6 := by kernel_rfl
@[simp] theorem tbytes56 : tbytes Tryz.prog 56 = some 104 := by kernel_rfl
@[simp] theorem tzero56 : tzero Tryz.prog 56 = some (.agg zeroCells) := by kernel_rfl
@[simp] theorem fieldAddr56_0 {id off : Nat} : afieldAddr Tryz.prog 56 (.ptr id off) 0 = some (.ptr id (off + 0)) := by simp [afieldAddr, tfield]
@[simp] theorem fieldAddr56_0c {x : AV} {off : Nat} : afieldAddr Tryz.prog 56 (.cptr x off) 0 = some (.cptr x (off + 0)) := by simp [afieldAddr, tfield]
@[simp] theorem fieldAddr56_1 {id off : Nat} : afieldAddr Tryz.prog 56 (.ptr id off) 1 = some (.ptr id (off + 1)) := by simp [afieldAddr, tfield]
@[simp] theorem fieldAddr56_1c {x : AV} {off : Nat} : afieldAddr Tryz.prog 56 (.cptr x off) 1 = some (.cptr x (off + 1)) := by simp [afieldAddr, tfield]
@[simp] theorem fieldAddr56_2 {id off : Nat} : afieldAddr Tryz.prog 56 (.ptr id off) 2 = some (.ptr id (off + 2)) := by simp [afieldAddr, tfield]
@[simp] theorem fieldAddr56_2c {x : AV} {off : Nat} : afieldAddr Tryz.prog 56 (.cptr x off) 2 = some (.cptr x (off + 2)) := by simp [afieldAddr, tfield]
@[simp] theorem fieldAddr56_3 {id off : Nat} : afieldAddr Tryz.prog 56 (.ptr id off) 3 = some (.ptr id (off + 3)) := by simp [afieldAddr, tfield]
@[simp] theorem fieldAddr56_3c {x : AV} {off : Nat} : afieldAddr Tryz.prog 56 (.cptr x off) 3 = some (.cptr x (off + 3)) := by simp [afieldAddr, tfield]
@[simp] theorem fieldAddr56_4 {id off : Nat} : afieldAddr Tryz.prog 56 (.ptr id off) 4 = some (.ptr id (off + 4)) := by simp [afieldAddr, tfield]
@[simp] theorem fieldAddr56_4c {x : AV} {off : Nat} : afieldAddr Tryz.prog 56 (.cptr x off) 4 = some (.cptr x (off + 4)) := by simp [afieldAddr, tfield]
@[simp] theorem fieldAddr56_5 {id off : Nat} : afieldAddr Tryz.prog 56 (.ptr id off) 5 = some (.ptr id (off + 5)) := by simp [afieldAddr, tfield]
@[simp] theorem fieldAddr56_5c {x : AV} {off : Nat} : afieldAddr Tryz.prog 56 (.cptr x off) 5 = some (.cptr x (off + 5)) := by simp [afieldAddr, tfield]
attribute [simp] Tryz.underlying58
@[simp] theorem tagg58 : tagg Tryz.prog 58 = some false := by kernel_rfl
@[simp] theorem tsize58 : tsize Tryz.prog 58 = some 1 := by kernel_rfl
@[simp] theorem tbytes58 : tbytes Tryz.prog 58 = some 8 := by kernel_rfl
@[simp] theorem tzero58 : tzero Tryz.prog 58 = some (.sc (.nilFunc)) := by kernel_rfl
attribute [simp] Tryz.underlying59
@[simp] theorem tagg59 : tagg Tryz.prog 59 = some false := by kernel_rfl
@[simp] theorem tsize59 : tsize Tryz.prog 59 = some 1 := by kernel_rfl
@[simp] theorem tbytes59 : tbytes Tryz.prog 59 = some 8 := by kernel_rfl
@[simp] theorem tzero59 : tzero Tryz.prog 59 = some (.sc (.nilFunc)) := by kernel_rfl
attribute [simp] Tryz.underlying60
@[simp] theorem tagg60 : tagg Tryz.prog 60 = some false := by kernel_rfl
@[simp] theorem tsize60 : tsize Tryz.prog 60 = some 1 := by kernel_rfl
@[simp] theorem tbytes60 : tbytes Tryz.prog 60 = some 8 := by kernel_rfl
@[simp] theorem tzero60 : tzero Tryz.prog 60 = some (.sc (.nilFunc)) := by kernel_rfl
attribute [simp] Tryz.underlying61
@[simp] theorem tagg61 : tagg Tryz.prog 61 = some false := by kernel_rfl
@[simp] theorem tsize61 : tsize Tryz.prog 61 = some 1 := by kernel_rfl
@[simp] theorem tbytes61 : tbytes Tryz.prog 61 = some 8 := by kernel_rfl
@[simp] theorem tzero61 : tzero Tryz.prog 61 = some (.sc (.nilFunc)) := by kernel_rfl
attribute [simp] Tryz.underlying62
@[simp] theorem tagg62 : tagg Tryz.prog 62 = some false := by kernel_rfl
@[simp] theorem tsize62 : tsize Tryz.prog 62 = some 1 := by kernel_rfl
@[simp] theorem tbytes62 : tbytes Tryz.prog 62 = some 8 := by kernel_rfl
@[simp] theorem tzero62 : tzero Tryz.prog 62 = some (.sc (.nilFunc)) := by kernel_rfl
attribute [simp] Tryz.underlying63
@[simp] theorem tagg63 : tagg Tryz.prog 63 = some false := by kernel_rfl
@[simp] theorem tsize63 : tsize Tryz.prog 63 = some 1 := by kernel_rfl
@[simp] theorem tbytes63 : tbytes Tryz.prog 63 = some 24 := by kernel_rfl
@[simp] theorem tzero63 : tzero Tryz.prog 63 = some (.emp 0) := by kernel_rfl
@[simp] theorem telem63 : telem Tryz.prog 63 = some 68 := by kernel_rfl
@[simp] theorem nofz63 : nofz Tryz.prog 63 = false := by kernel_rfl
attribute [simp] Tryz.underlying64
@[simp] theorem tagg64 : tagg Tryz.prog 64 = some false := by kernel_rfl
@[simp] theorem tsize64 : tsize Tryz.prog 64 = some 1 := by kernel_rfl
@[simp] theorem tbytes64 : tbytes Tryz.prog 64 = some 8 := by kernel_rfl
@[simp] theorem tzero64 : tzero Tryz.prog 64 = some (.sc (.pointer Option.none)) := by kernel_rfl
attribute [simp] Tryz.underlying65
@[simp] theorem tagg65 : tagg Tryz.prog 65 = some false := by kernel_rfl
@[simp] theorem tsize65 : tsize Tryz.prog 65 = some 1 := by kernel_rfl
@[simp] theorem tbytes65 : tbytes Tryz.prog 65 = some 8 := by kernel_rfl
@[simp] theorem tzero65 : tzero Tryz.prog 65 = some (.sc (.nilFunc)) := by kernel_rfl
attribute [simp] Tryz.underlying66
@[simp] theorem tagg66 : tagg Tryz.prog 66 = some false := by kernel_rfl
@[simp] theorem tsize66 : tsize Tryz.prog 66 = some 1 := by kernel_rfl
@[simp] theorem tbytes66 : tbytes Tryz.prog 66 = some 24 := by kernel_rfl
@[simp] theorem tzero66 : tzero Tryz.prog 66 = some (.emp 0) := by kernel_rfl
@[simp] theorem telem66 : telem Tryz.prog 66 = some 51 := by kernel_rfl
@[simp] theorem nofz66 : nofz Tryz.prog 66 = false := by kernel_rfl
attribute [simp] Tryz.underlying67
@[simp] theorem tagg67 : tagg Tryz.prog 67 = some true := by kernel_rfl
@[simp] theorem tsize67 : tsize Tryz.prog 67 = some 2 := by kernel_rfl
@[simp] theorem tbytes67 : tbytes Tryz.prog 67 = some 32 := by kernel_rfl
@[simp] theorem tzero67 : tzero Tryz.prog 67 = some (.agg [.sc (.int .i64 0), .emp 0]) := by kernel_rfl
@[simp] theorem fieldAddr67_0 {id off : Nat} : afieldAddr Tryz.prog 67 (.ptr id off) 0 = some (.ptr id (off + 0)) := by simp [afieldAddr, tfield]
@[simp] theorem fieldAddr67_0c {x : AV} {off : Nat} : afieldAddr Tryz.prog 67 (.cptr x off) 0 = some (.cptr x (off + 0)) := by simp [afieldAddr, tfield]
@[simp] theorem fieldAddr67_1 {id off : Nat} : afieldAddr Tryz.prog 67 (.ptr id off) 1 = some (.ptr id (off + 1)) := by simp [afieldAddr, tfield]
@[simp] theorem fieldAddr67_1c {x : AV} {off : Nat} : afieldAddr Tryz.prog 67 (.cptr x off) 1 = some (.cptr x (off + 1)) := by simp [afieldAddr, tfield]
attribute [simp] Tryz.underlying68
@[simp] theorem tagg68 : tagg Tryz.prog 68 = some true := by kernel_rfl
@[simp] theorem tsize68 : tsize Tryz.prog 68 = some 2 := by kernel_rfl
@[simp] theorem tbytes68 : tbytes Tryz.prog 68 = some 32 := by kernel_rfl
@[simp] theorem tzero68 : tzero Tryz.prog 68 = some (.agg [.sc (.int .i64 0), .emp 0]) := by kernel_rfl
@[simp] theorem fieldAddr68_0 {id off : Nat} : afieldAddr Tryz.prog 68 (.ptr id off) 0 = some (.ptr id (off + 0)) := by simp [afieldAddr, tfield]
@[simp] theorem fieldAddr68_0c {x : AV} {off : Nat} : afieldAddr Tryz.prog 68 (.cptr x off) 0 = some (.cptr x (off + 0)) := by simp [afieldAddr, tfield]
@[simp] theorem fieldAddr68_1 {id off : Nat} : afieldAddr Tryz.prog 68 (.ptr id off) 1 = some (.ptr id (off + 1)) := by simp [afieldAddr, tfield]
@[simp] theorem fieldAddr68_1c {x : AV} {off : Nat} : afieldAddr Tryz.prog 68 (.cptr x off) 1 = some (.cptr x (off + 1)) := by simp [afieldAddr, tfield]
attribute [simp] Tryz.underlying69
@[simp] theorem tagg69 : tagg Tryz.prog 69 = some false := by kernel_rfl
@[simp] theorem tsize69 : tsize Tryz.prog 69 = some 1 := by kernel_rfl
@[simp] theorem tbytes69 : tbytes Tryz.prog 69 = some 8 := by kernel_rfl
@[simp] theorem tzero69 : tzero Tryz.prog 69 = some (.sc (.pointer Option.none)) := by kernel_rfl
attribute [simp] Tryz.underlying70
@[simp] theorem tagg70 : tagg Tryz.prog 70 = some true := by kernel_rfl
@[simp] theorem tsize70 : tsize Tryz.prog 70 = some 2 := by kernel_rfl
@[simp] theorem tbytes70 : tbytes Tryz.prog 70 = some 16 := by kernel_rfl
@[simp] theorem tzero70 : tzero Tryz.prog 70 = some (.agg [.sc (.pointer Option.none), .sc (.pointer Option.none)]) := by kernel_rfl
@[simp] theorem fieldAddr70_0 {id off : Nat} : afieldAddr Tryz.prog 70 (.ptr id off) 0 = some (.ptr id (off + 0)) := by simp [afieldAddr, tfield]
@[simp] theorem fieldAddr70_0c {x : AV} {off : Nat} : afieldAddr Tryz.prog 70 (.cptr x off) 0 = some (.cptr x (off + 0)) := by simp [afieldAddr, tfield]
@[simp] theorem fieldAddr70_1 {id off : Nat} : afieldAddr Tryz.prog 70 (.ptr id off) 1 = some (.ptr id (off + 1)) := by simp [afieldAddr, tfield]
@[simp] theorem fieldAddr70_1c {x : AV} {off : Nat} : afieldAddr Tryz.prog 70 (.cptr x off) 1 = some (.cptr x (off + 1)) := by simp [afieldAddr, tfield]
attribute [simp] Tryz.underlying71
@[simp] theorem tagg71 : tagg Tryz.prog 71 = some true := by kernel_rfl
@[simp] theorem tsize71 : tsize Tryz.prog 71 = some 2 := by kernel_rfl
@[simp] theorem tbytes71 : tbytes Tryz.prog 71 = some 16 := by kernel_rfl
@[simp] theorem tzero71 : tzero Tryz.prog 71 = some (.agg [.sc (.pointer Option.none), .sc (.pointer Option.none)]) := by kernel_rfl
@[simp] theorem fieldAddr71_0 {id off : Nat} : afieldAddr Tryz.prog 71 (.ptr id off) 0 = some (.ptr id (off + 0)) := by simp [afieldAddr, tfield]
@[simp] theorem fieldAddr71_0c {x : AV} {off : Nat} : afieldAddr Tryz.prog 71 (.cptr x off) 0 = some (.cptr x (off + 0)) := by simp [afieldAddr, tfield]
@[simp] theorem fieldAddr71_1 {id off : Nat} : afieldAddr Tryz.prog 71 (.ptr id off) 1 = some (.ptr id (off + 1)) := by simp [afieldAddr, tfield]
@[simp] theorem fieldAddr71_1c {x : AV} {off : Nat} : afieldAddr Tryz.prog 71 (.cptr x off) 1 = some (.cptr x (off + 1)) := by simp [afieldAddr, tfield]
attribute [simp] Tryz.underlying72
@[simp] theorem tagg72 : tagg Tryz.prog 72 = some false := by kernel_rfl
@[simp] theorem tsize72 : tsize Tryz.prog 72 = some 1 := by kernel_rfl
@[simp] theorem tbytes72 : tbytes Tryz.prog 72 = some 8 := by kernel_rfl
@[simp] theorem tzero72 : tzero Tryz.prog 72 = some (.sc (.nilFunc)) := by kernel_rfl
attribute [simp] Tryz.underlying73
@[simp] theorem tagg73 : tagg Tryz.prog 73 = some false := by kernel_rfl
@[simp] theorem tsize73 : tsize Tryz.prog 73 = some 1 := by kernel_rfl
@[simp] theorem tbytes73 : tbytes Tryz.prog 73 = some 8 := by kernel_rfl
@[simp] theorem tzero73 : tzero Tryz.prog 73 = some (.sc (.nilFunc)) := by kernel_rfl
attribute [simp] Tryz.underlying74
@[simp] theorem tagg74 : tagg Tryz.prog 74 = some false := by kernel_rfl
@[simp] theorem tsize74 : tsize Tryz.prog 74 = some 1 := by kernel_rfl
@[simp] theorem tbytes74 : tbytes Tryz.prog 74 = some 24 := by kernel_rfl
@[simp] theorem tzero74 : tzero Tryz.prog 74 = some (.emp 0) := by kernel_rfl
@[simp] theorem telem74 : telem Tryz.prog 74 = some 78 := by kernel_rfl
@[simp] theorem nofz74 : nofz Tryz.prog 74 = true := by kernel_rfl
attribute [simp] Tryz.underlying75
@[simp] theorem tagg75 : tagg Tryz.prog 75 = some false := by kernel_rfl
@[simp] theorem tsize75 : tsize Tryz.prog 75 = some 1 := by kernel_rfl
@[simp] theorem tbytes75 : tbytes Tryz.prog 75 = some 8 := by kernel_rfl
@[simp] theorem tzero75 : tzero Tryz.prog 75 = some (.sc (.nilFunc)) := by kernel_rfl
attribute [simp] Tryz.underlying76
@[simp] theorem tagg76 : tagg Tryz.prog 76 = some false := by kernel_rfl
@[simp] theorem tsize76 : tsize Tryz.prog 76 = some 1 := by kernel_rfl
@[simp] theorem tbytes76 : tbytes Tryz.prog 76 = some 24 := by kernel_rfl
@[simp] theorem tzero76 : tzero Tryz.prog 76 = some (.emp 0) := by kernel_rfl
@[simp] theorem telem76 : telem Tryz.prog 76 = some 5 := by kernel_rfl
@[simp] theorem nofz76 : nofz Tryz.prog 76 = false := by kernel_rfl
attribute [simp] Tryz.underlying77
@[simp] theorem tagg77 : tagg Tryz.prog 77 = some true := by kernel_rfl
@[simp] theorem tsize77 : tsize Tryz.prog 77 = some 4 := by kernel_rfl
@[simp] theorem tbytes77 : tbytes Tryz.prog 77 = some 64 := by kernel_rfl
@[simp] theorem tzero77 : tzero Tryz.prog 77 = some (.agg [.sc (.int .i64 0), .sc (.int .i64 0), .emp 0, .emp 0]) := by kernel_rfl
@[simp] theorem fieldAddr77_0 {id off : Nat} : afieldAddr Tryz.prog 77 (.ptr id off) 0 = some (.ptr id (off + 0)) := by simp [afieldAddr, tfield]
@[simp] theorem fieldAddr77_0c {x : AV} {off : Nat} : afieldAddr Tryz.prog 77 (.cptr x off) 0 = some (.cptr x (off + 0)) := by simp [afieldAddr, tfield]
@[simp] theorem fieldAddr77_1 {id off : Nat} : afieldAddr Tryz.prog 77 (.ptr id off) 1 = some (.ptr id (off + 1)) := by simp [afieldAddr, tfield]
@[simp] theorem fieldAddr77_1c {x : AV} {off : Nat} : afieldAddr Tryz.prog 77 (.cptr x off) 1 = some (.cptr x (off + 1)) := by simp [afieldAddr, tfield]
@[simp] theorem fieldAddr77_2 {id off : Nat} : afieldAddr Tryz.prog 77 (.ptr id off) 2 = some (.ptr id (off + 2)) := by simp [afieldAddr, tfield]
@[simp] theorem fieldAddr77_2c {x : AV} {off : Nat} : afieldAddr Tryz.prog 77 (.cptr x off) 2 = some (.cptr x (off + 2)) := by simp [afieldAddr, tfield]
@[simp] theorem fieldAddr77_3 {id off : Nat} : afieldAddr Tryz.prog 77 (.ptr id off) 3 = some (.ptr id (off + 3)) := by simp [afieldAddr, tfield]
@[simp] theorem fieldAddr77_3c {x : AV} {off : Nat} : afieldAddr Tryz.prog 77 (.cptr x off) 3 = some (.cptr x (off + 3)) := by simp [afieldAddr, tfield]
attribute [simp] Tryz.underlying78
@[simp] theorem tagg78 : tagg Tryz.prog 78 = some true := by kernel_rfl
@[simp] theorem tsize78 : tsize Tryz.prog 78 = some 4 := by kernel_rfl
@[simp] theorem tbytes78 : tbytes Tryz.prog 78 = some 64 := by kernel_rfl
@[simp] theorem tzero78 : tzero Tryz.prog 78 = some (.agg [.sc (.int .i64 0), .sc (.int .i64 0), .emp 0, .emp 0]) := by kernel_rfl
@[simp] theorem fieldAddr78_0 {id off : Nat} : afieldAddr Tryz.prog 78 (.ptr id off) 0 = some (.ptr id (off + 0)) := by simp [afieldAddr, tfield]
@[simp] theorem fieldAddr78_0c {x : AV} {off : Nat} : afieldAddr Tryz.prog 78 (.cptr x off) 0 = some (.cptr x (off + 0)) := by simp [afieldAddr, tfield]
@[simp] theorem fieldAddr78_1 {id off : Nat} : afieldAddr Tryz.prog 78 (.ptr id off) 1 = some (.ptr id (off + 1)) := by simp [afieldAddr, tfield]
@[simp] theorem fieldAddr78_1c {x : AV} {off : Nat} : afieldAddr Tryz.prog 78 (.cptr x off) 1 = some (.cptr x (off + 1)) := by simp [afieldAddr, tfield]
@[simp] theorem fieldAddr78_2 {id off : Nat} : afieldAddr Tryz.prog 78 (.ptr id off) 2 = some (.ptr id (off + 2)) := by simp [afieldAddr, tfield]
@[simp] theorem fieldAddr78_2c {x : AV} {off : Nat} : afieldAddr Tryz.prog 78 (.cptr x off) 2 = some (.cptr x (off + 2)) := by simp [afieldAddr, tfield]
@[simp] theorem fieldAddr78_3 {id off : Nat} : afieldAddr Tryz.prog 78 (.ptr id off) 3 = some (.ptr id (off + 3)) := by simp [afieldAddr, tfield]
@[simp] theorem fieldAddr78_3c {x : AV} {off : Nat} : afieldAddr Tryz.prog 78 (.cptr x off) 3 = some (.cptr x (off + 3)) := by simp [afieldAddr, tfield]
attribute [simp] Tryz.underlying79
@[simp] theorem tagg79 : tagg Tryz.prog 79 = some false := by kernel_rfl
@[simp] theorem tsize79 : tsize Tryz.prog 79 = some 1 := by kernel_rfl
@[simp] theorem tbytes79 : tbytes Tryz.prog 79 = some 8 := by kernel_rfl
@[simp] theorem tzero79 : tzero Tryz.prog 79 = some (.sc (.nilFunc)) := by kernel_rfl
attribute [simp] Tryz.underlying80
@[simp] theorem tagg80 : tagg Tryz.prog 80 = some true := by kernel_rfl
@[simp] theorem tsize80 : tsize Tryz.prog 80 = some 3 := by kernel_rfl
@[simp] theorem tbytes80 : tbytes Tryz.prog 80 = some 32 := by kernel_rfl
@[simp] theorem tzero80 : tzero Tryz.prog 80 = some (.agg [.sc (.string ⟨⟨[]⟩⟩), .sc (.int .i64 0), .sc (.int .i64 0)]) := by kernel_rfl
@[simp] theorem fieldAddr80_0 {id off : Nat} : afieldAddr Tryz.prog 80 (.ptr id off) 0 = some (.ptr id (off + 0)) := by simp [afieldAddr, tfield]
@[simp] theorem fieldAddr80_0c {x : AV} {off : Nat} : afieldAddr Tryz.prog 80 (.cptr x off) 0 = some (.cptr x (off + 0)) := by simp [afieldAddr, tfield]
@[simp] theorem fieldAddr80_1 {id off : Nat} : afieldAddr Tryz.prog 80 (.ptr id off) 1 = some (.ptr id (off + 1)) := by simp [afieldAddr, tfield]
@[simp] theorem fieldAddr80_1c {x : AV} {off : Nat} : afieldAddr Tryz.prog 80 (.cptr x off) 1 = some (.cptr x (off + 1)) := by simp [afieldAddr, tfield]
@[simp] theorem fieldAddr80_2 {id off : Nat} : afieldAddr Tryz.prog 80 (.ptr id off) 2 = some (.ptr id (off + 2)) := by simp [afieldAddr, tfield]
@[simp] theorem fieldAddr80_2c {x : AV} {off : Nat} : afieldAddr Tryz.prog 80 (.cptr x off) 2 = some (.cptr x (off + 2)) := by simp [afieldAddr, tfield]
attribute [simp] Tryz.underlying81
@[simp] theorem tagg81 : tagg Tryz.prog 81 = some true := by kernel_rfl
@[simp] theorem tsize81 : tsize Tryz.prog 81 = some 3 := by kernel_rfl
@[simp] theorem tbytes81 : tbytes Tryz.prog 81 = some 32 := by kernel_rfl
@[simp] theorem tzero81 : tzero Tryz.prog 81 = some (.agg [.sc (.string ⟨⟨[]⟩⟩), .sc (.int .i64 0), .sc (.int .i64 0)]) := by kernel_rfl
@[simp] theorem fieldAddr81_0 {id off : Nat} : afieldAddr Tryz.prog 81 (.ptr id off) 0 = some (.ptr id (off + 0)) := by simp [afieldAddr, tfield]
@[simp] theorem fieldAddr81_0c {x : AV} {off : Nat} : afieldAddr Tryz.prog 81 (.cptr x off) 0 = some (.cptr x (off + 0)) := by simp [afieldAddr, tfield]
@[simp] theorem fieldAddr81_1 {id off : Nat} : afieldAddr Tryz.prog 81 (.ptr id off) 1 = some (.ptr id (off + 1)) := by simp [afieldAddr, tfield]
@[simp] theorem fieldAddr81_1c {x : AV} {off : Nat} : afieldAddr Tryz.prog 81 (.cptr x off) 1 = some (.cptr x (off + 1)) := by simp [afieldAddr, tfield]
@[simp] theorem fieldAddr81_2 {id off : Nat} : afieldAddr Tryz.prog 81 (.ptr id off) 2 = some (.ptr id (off + 2)) := by simp [afieldAddr, tfield]
@[simp] theorem fieldAddr81_2c {x : AV} {off : Nat} : afieldAddr Tryz.prog 81 (.cptr x off) 2 = some (.cptr x (off + 2)) := by simp [afieldAddr, tfield]
attribute [simp] Tryz.underlying83
@[simp] theorem tagg83 : tagg Tryz.prog 83 = some false := by kernel_rfl
@[simp] theorem tsize83 : tsize Tryz.prog 83 = some 1 := by kernel_rfl
@[simp] theorem tbytes83 : tbytes Tryz.prog 83 = some 8 := by kernel_rfl
@[simp] theorem tzero83 : tzero Tryz.prog 83 = some (.sc (.nilFunc)) := by kernel_rfl
attribute [simp] Tryz.underlying84
@[simp] theorem tagg84 : tagg Tryz.prog 84 = some true := by kernel_rfl
@[simp] theorem tsize84 : tsize Tryz.prog 84 = some 15 := by kernel_rfl
@[simp] theorem tbytes84 : tbytes Tryz.prog 84 = some 240 := by kernel_rfl
@[simp] theorem tzero84 : tzero Tryz.prog 84 = some (.agg [.sc (.string ⟨⟨[]⟩⟩), .sc (.string ⟨⟨[]⟩⟩), .sc (.string ⟨⟨[]⟩⟩), .sc (.string ⟨⟨[]⟩⟩), .sc (.string ⟨⟨[]⟩⟩), .sc (.string ⟨⟨[]⟩⟩), .sc (.string ⟨⟨[]⟩⟩), .sc (.string ⟨⟨[]⟩⟩), .sc (.string ⟨⟨[]⟩⟩), .sc (.string ⟨⟨[]⟩⟩), .sc (.string ⟨⟨[]⟩⟩), .sc (.string ⟨⟨[]⟩⟩), .sc (.string ⟨⟨[]⟩⟩), .sc (.string ⟨⟨[]⟩⟩), .sc (.string ⟨⟨[]⟩⟩)]) := by kernel_rfl
@[simp] theorem tarr84 : tarr Tryz.prog 84 = some (15, 9) := by kernel_rfl
attribute [simp] Tryz.underlying85
@[simp] theorem tagg85 : tagg Tryz.prog 85 = some false := by kernel_rfl
@[simp] theorem tsize85 : tsize Tryz.prog 85 = some 1 := by kernel_rfl
@[simp] theorem tbytes85 : tbytes Tryz.prog 85 = some 24 := by kernel_rfl
@[simp] theorem tzero85 : tzero Tryz.prog 85 = some (.emp 0) := by kernel_rfl
@[simp] theorem telem85 : telem Tryz.prog 85 = some 9 := by kernel_rfl
@[simp] theorem nofz85 : nofz Tryz.prog 85 = false := by kernel_rfl
attribute [simp] Tryz.underlying86
@[simp] theorem tagg86 : tagg Tryz.prog 86 = some false := by kernel_rfl
@[simp] theorem tsize86 : tsize Tryz.prog 86 = some 1 := by kernel_rfl
@[simp] theorem tbytes86 : tbytes Tryz.prog 86 = some 8 := by kernel_rfl
@[simp] theorem tzero86 : tzero Tryz.prog 86 = some (.sc (.nilFunc)) := by kernel_rfl
attribute [simp] Tryz.underlying87
@[simp] theorem tagg87 : tagg Tryz.prog 87 = some true := by kernel_rfl
@[simp] theorem tsize87 : tsize Tryz.prog 87 = some 255 := by kernel_rfl
@[simp] theorem tbytes87 : tbytes Tryz.prog 87 = some 2720 := by kernel_rfl
@[simp] theorem tarr87 : tarr Tryz.prog 87 = some (85, 81) := by kernel_rfl
attribute [simp] Tryz.underlying88
@[simp] theorem tagg88 : tagg Tryz.prog 88 = some false := by kernel_rfl
@[simp] theorem tsize88 : tsize Tryz.prog 88 = some 1 := by kernel_rfl
@[simp] theorem tbytes88 : tbytes Tryz.prog 88 = some 8 := by kernel_rfl
@[simp] theorem tzero88 : tzero Tryz.prog 88 = some (.sc (.nilFunc)) := by kernel_rfl
attribute [simp] Tryz.underlying89
@[simp] theorem tagg89 : tagg Tryz.prog 89 = some false := by kernel_rfl
@[simp] theorem tsize89 : tsize Tryz.prog 89 = some 1 := by kernel_rfl
@[simp] theorem tbytes89 : tbytes Tryz.prog 89 = some 8 := by kernel_rfl
@[simp] theorem tzero89 : tzero Tryz.prog 89 = some (.sc (.map Option.none)) := by kernel_rfl
@[simp] theorem tmap89 : tmap Tryz.prog 89 = some (9, 3) := by kernel_rfl
attribute [simp] Tryz.underlying90
@[simp] theorem tagg90 : tagg Tryz.prog 90 = some true := by kernel_rfl
@[simp] theorem tsize90 : tsize Tryz.prog 90 = some 4 := by kernel_rfl
@[simp] theorem tbytes90 : tbytes Tryz.prog 90 = some 64 := by kernel_rfl
@[simp] theorem tzero90 : tzero Tryz.prog 90 = some (.agg [.sc (.int .i64 0), .emp 0, .emp 0, .sc (.map Option.none)]) := by kernel_rfl
@[simp] theorem fieldAddr90_0 {id off : Nat} : afieldAddr Tryz.prog 90 (.ptr id off) 0 = some (.ptr id (off + 0)) := by simp [afieldAddr, tfield]
@[simp] theorem fieldAddr90_0c {x : AV} {off : Nat} : afieldAddr Tryz.prog 90 (.cptr x off) 0 = some (.cptr x (off + 0)) := by simp [afieldAddr, tfield]
@[simp] theorem fieldAddr90_1 {id off : Nat} : afieldAddr Tryz.prog 90 (.ptr id off) 1 = some (.ptr id (off + 1)) := by simp [afieldAddr, tfield]
@[simp] theorem fieldAddr90_1c {x : AV} {off : Nat} : afieldAddr Tryz.prog 90 (.cptr x off) 1 = some (.cptr x (off + 1)) := by simp [afieldAddr, tfield]
@[simp] theorem fieldAddr90_2 {id off : Nat} : afieldAddr Tryz.prog 90 (.ptr id off) 2 = some (.ptr id (off + 2)) := by simp [afieldAddr, tfield]
@[simp] theorem fieldAddr90_2c {x : AV} {off : Nat} : afieldAddr Tryz.prog 90 (.cptr x off) 2 = some (.cptr x (off + 2)) := by simp [afieldAddr, tfield]
@[simp] theorem fieldAddr90_3 {id off : Nat} : afieldAddr Tryz.prog 90 (.ptr id off) 3 = some (.ptr id (off + 3)) := by simp [afieldAddr, tfield]
@[simp] theorem fieldAddr90_3c {x : AV} {off : Nat} : afieldAddr Tryz.prog 90 (.cptr x off) 3 = some (.cptr x (off + 3)) := by simp [afieldAddr, tfield]
attribute [simp] Tryz.underlying91
@[simp] theorem tagg91 : tagg Tryz.prog 91 = some true := by kernel_rfl
@[simp] theorem tsize91 : tsize Tryz.prog 91 = some 4 := by kernel_rfl
@[simp] theorem tbytes91 : tbytes Tryz.prog 91 = some 64 := by kernel_rfl
@[simp] theorem tzero91 : tzero Tryz.prog 91 = some (.agg [.sc (.int .i64 0), .emp 0, .emp 0, .sc (.map Option.none)]) := by kernel_rfl
@[simp] theorem fieldAddr91_0 {id off : Nat} : afieldAddr Tryz.prog 91 (.ptr id off) 0 = some (.ptr id (off + 0)) := by simp [afieldAddr, tfield]
@[simp] theorem fieldAddr91_0c {x : AV} {off : Nat} : afieldAddr Tryz.prog 91 (.cptr x off) 0 = some (.cptr x (off + 0)) := by simp [afieldAddr, tfield]
@[simp] theorem fieldAddr91_1 {id off : Nat} : afieldAddr Tryz.prog 91 (.ptr id off) 1 = some (.ptr id (off + 1)) := by simp [afieldAddr, tfield]
@[simp] theorem fieldAddr91_1c {x : AV} {off : Nat} : afieldAddr Tryz.prog 91 (.cptr x off) 1 = some (.cptr x (off + 1)) := by simp [afieldAddr, tfield]
@[simp] theorem fieldAddr91_2 {id off : Nat} : afieldAddr Tryz.prog 91 (.ptr id off) 2 = some (.ptr id (off + 2)) := by simp [afieldAddr, tfield]
@[simp] theorem fieldAddr91_2c {x : AV} {off : Nat} : afieldAddr Tryz.prog 91 (.cptr x off) 2 = some (.cptr x (off + 2)) := by simp [afieldAddr, tfield]
@[simp] theorem fieldAddr91_3 {id off : Nat} : afieldAddr Tryz.prog 91 (.ptr id off) 3 = some (.ptr id (off + 3)) := by simp [afieldAddr, tfield]
@[simp] theorem fieldAddr91_3c {x : AV} {off : Nat} : afieldAddr Tryz.prog 91 (.cptr x off) 3 = some (.cptr x (off + 3)) := by simp [afieldAddr, tfield]
attribute [simp] Tryz.underlying92
@[simp] theorem tagg92 : tagg Tryz.prog 92 = some false := by kernel_rfl
@[simp] theorem tsize92 : tsize Tryz.prog 92 = some 1 := by kernel_rfl
@[simp] theorem tbytes92 : tbytes Tryz.prog 92 = some 8 := by kernel_rfl
@[simp] theorem tzero92 : tzero Tryz.prog 92 = some (.sc (.nilFunc)) := by kernel_rfl
attribute [simp] Tryz.underlying93
@[simp] theorem tagg93 : tagg Tryz.prog 93 = some false := by kernel_rfl
@[simp] theorem tsize93 : tsize Tryz.prog 93 = some 1 := by kernel_rfl
@[simp] theorem tbytes93 : tbytes Tryz.prog 93 = some 8 := by kernel_rfl
@[simp] theorem tzero93 : tzero Tryz.prog 93 = some (.sc (.nilFunc)) := by kernel_rfl
attribute [simp] Tryz.underlying94
@[simp] theorem tagg94 : tagg Tryz.prog 94 = some false := by kernel_rfl
@[simp] theorem tsize94 : tsize Tryz.prog 94 = some 1 := by kernel_rfl
@[simp] theorem tbytes94 : tbytes Tryz.prog 94 = some 8 := by kernel_rfl
@[simp] theorem tzero94 : tzero Tryz.prog 94 = some (.sc (.pointer Option.none)) := by kernel_rfl
attribute [simp] Tryz.underlying95
@[simp] theorem tagg95 : tagg Tryz.prog 95 = some true := by kernel_rfl
@[simp] theorem tsize95 : tsize Tryz.prog 95 = some 4 := by kernel_rfl
@[simp] theorem tbytes95 : tbytes Tryz.prog 95 = some 48 := by kernel_rfl
@[simp] theorem tzero95 : tzero Tryz.prog 95 = some (.agg [.sc (.pointer Option.none), .sc (.int .i64 0), .emp 0, .sc (.int .i64 0)]) := by kernel_rfl
@[simp] theorem fieldAddr95_0 {id off : Nat} : afieldAddr Tryz.prog 95 (.ptr id off) 0 = some (.ptr id (off + 0)) := by simp [afieldAddr, tfield]
@[simp] theorem fieldAddr95_0c {x : AV} {off : Nat} : afieldAddr Tryz.prog 95 (.cptr x off) 0 = some (.cptr x (off + 0)) := by simp [afieldAddr, tfield]
@[simp] theorem fieldAddr95_1 {id off : Nat} : afieldAddr Tryz.prog 95 (.ptr id off) 1 = some (.ptr id (off + 1)) := by simp [afieldAddr, tfield]
@[simp] theorem fieldAddr95_1c {x : AV} {off : Nat} : afieldAddr Tryz.prog 95 (.cptr x off) 1 = some (.cptr x (off + 1)) := by simp [afieldAddr, tfield]
@[simp] theorem fieldAddr95_2 {id off : Nat} : afieldAddr Tryz.prog 95 (.ptr id off) 2 = some (.ptr id (off + 2)) := by simp [afieldAddr, tfield]
@[simp] theorem fieldAddr95_2c {x : AV} {off : Nat} : afieldAddr Tryz.prog 95 (.cptr x off) 2 = some (.cptr x (off + 2)) := by simp [afieldAddr, tfield]
@[simp] theorem fieldAddr95_3 {id off : Nat} : afieldAddr Tryz.prog 95 (.ptr id off) 3 = some (.ptr id (off + 3)) := by simp [afieldAddr, tfield]
@[simp] theorem fieldAddr95_3c {x : AV} {off : Nat} : afieldAddr Tryz.prog 95 (.cptr x off) 3 = some (.cptr x (off + 3)) := by simp [afieldAddr, tfield]
attribute [simp] Tryz.underlying96
@[simp] theorem tagg96 : tagg Tryz.prog 96 = some true := by kernel_rfl
@[simp] theorem tsize96 : tsize Tryz.prog 96 = some 4 := by kernel_rfl
@[simp] theorem tbytes96 : tbytes Tryz.prog 96 = some 48 := by kernel_rfl
@[simp] theorem tzero96 : tzero Tryz.prog 96 = some (.agg [.sc (.pointer Option.none), .sc (.int .i64 0), .emp 0, .sc (.int .i64 0)]) := by kernel_rfl
@[simp] theorem fieldAddr96_0 {id off : Nat} : afieldAddr Tryz.prog 96 (.ptr id off) 0 = some (.ptr id (off + 0)) := by simp [afieldAddr, tfield]
@[simp] theorem fieldAddr96_0c {x : AV} {off : Nat} : afieldAddr Tryz.prog 96 (.cptr x off) 0 = some (.cptr x (off + 0)) := by simp [afieldAddr, tfield]
@[simp] theorem fieldAddr96_1 {id off : Nat} : afieldAddr Tryz.prog 96 (.ptr id off) 1 = some (.ptr id (off + 1)) := by simp [afieldAddr, tfield]
@[simp] theorem fieldAddr96_1c {x : AV} {off : Nat} : afieldAddr Tryz.prog 96 (.cptr x off) 1 = some (.cptr x (off + 1)) := by simp [afieldAddr, tfield]
@[simp] theorem fieldAddr96_2 {id off : Nat} : afieldAddr Tryz.prog 96 (.ptr id off) 2 = some (.ptr id (off + 2)) := by simp [afieldAddr, tfield]
@[simp] theorem fieldAddr96_2c {x : AV} {off : Nat} : afieldAddr Tryz.prog 96 (.cptr x off) 2 = some (.cptr x (off + 2)) := by simp [afieldAddr, tfield]
@[simp] theorem fieldAddr96_3 {id off : Nat} : afieldAddr Tryz.prog 96 (.ptr id off) 3 = some (.ptr id (off + 3)) := by simp [afieldAddr, tfield]
@[simp] theorem fieldAddr96_3c {x : AV} {off : Nat} : afieldAddr Tryz.prog 96 (.cptr x off) 3 = some (.cptr x (off + 3)) := by simp [afieldAddr, tfield]
attribute [simp] Tryz.underlying97
@[simp] theorem tagg97 : tagg Tryz.prog 97 = some false := by kernel_rfl
@[simp] theorem tsize97 : tsize Tryz.prog 97 = some 1 := by kernel_rfl
@[simp] theorem tbytes97 : tbytes Tryz.prog 97 = some 8 := by kernel_rfl
@[simp] theorem tzero97 : tzero Tryz.prog 97 = some (.sc (.nilFunc)) := by kernel_rfl
attribute [simp] Tryz.underlying98
@[simp] theorem tagg98 : tagg Tryz.prog 98 = some false := by kernel_rfl
@[simp] theorem tsize98 : tsize Tryz.prog 98 = some 1 := by kernel_rfl
@[simp] theorem tbytes98 : tbytes Tryz.prog 98 = some 8 := by kernel_rfl
@[simp] theorem tzero98 : tzero Tryz.prog 98 = some (.sc (.nilFunc)) := by kernel_rfl
attribute [simp] Tryz.underlying99
@[simp] theorem tagg99 : tagg Tryz.prog 99 = some false := by kernel_rfl
@[simp] theorem tsize99 : tsize Tryz.prog 99 = some 1 := by kernel_rfl
@[simp] theorem tbytes99 : tbytes Tryz.prog 99 = some 8 := by kernel_rfl
@[simp] theorem tzero99 : tzero Tryz.prog 99 = some (.sc (.nilFunc)) := by kernel_rfl
attribute [simp] Tryz.underlying100
@[simp] theorem tagg100 : tagg Tryz.prog 100 = some false := by kernel_rfl
@[simp] theorem tsize100 : tsize Tryz.prog 100 = some 1 := by kernel_rfl
@[simp] theorem tbytes100 : tbytes Tryz.prog 100 = some 8 := by kernel_rfl
@[simp] theorem tzero100 : tzero Tryz.prog 100 = some (.sc (.nilFunc)) := by kernel_rfl
attribute [simp] Tryz.underlying101
@[simp] theorem tagg101 : tagg Tryz.prog 101 = some false := by kernel_rfl
@[simp] theorem tsize101 : tsize Tryz.prog 101 = some 1 := by kernel_rfl
@[simp] theorem tbytes101 : tbytes Tryz.prog 101 = some 8 := by kernel_rfl
@[simp] theorem tzero101 : tzero Tryz.prog 101 = some (.sc (.pointer Option.none)) := by kernel_rfl
attribute [simp] Tryz.underlying102
@[simp] theorem tagg102 : tagg Tryz.prog 102 = some true := by kernel_rfl
@[simp] theorem tsize102 : tsize Tryz.prog 102 = some 2 := by kernel_rfl
@[simp] theorem tbytes102 : tbytes Tryz.prog 102 = some 16 := by kernel_rfl
@[simp] theorem tzero102 : tzero Tryz.prog 102 = some (.agg [.sc (.pointer Option.none), .sc (.int .i64 0)]) := by kernel_rfl
@[simp] theorem fieldAddr102_0 {id off : Nat} : afieldAddr Tryz.prog 102 (.ptr id off) 0 = some (.ptr id (off + 0)) := by simp [afieldAddr, tfield]
@[simp] theorem fieldAddr102_0c {x : AV} {off : Nat} : afieldAddr Tryz.prog 102 (.cptr x off) 0 = some (.cptr x (off + 0)) := by simp [afieldAddr, tfield]
@[simp] theorem fieldAddr102_1 {id off : Nat} : afieldAddr Tryz.prog 102 (.ptr id off) 1 = some (.ptr id (off + 1)) := by simp [afieldAddr, tfield]
@[simp] theorem fieldAddr102_1c {x : AV} {off : Nat} : afieldAddr Tryz.prog 102 (.cptr x off) 1 = some (.cptr x (off + 1)) := by simp [afieldAddr, tfield]
attribute [simp] Tryz.underlying103
@[simp] theorem tagg103 : tagg Tryz.prog 103 = some true := by kernel_rfl
@[simp] theorem tsize103 : tsize Tryz.prog 103 = some 2 := by kernel_rfl
@[simp] theorem tbytes103 : tbytes Tryz.prog 103 = some 16 := by kernel_rfl
@[simp] theorem tzero103 : tzero Tryz.prog 103 = some (.agg [.sc (.pointer Option.none), .sc (.int .i64 0)]) := by kernel_rfl
@[simp] theorem fieldAddr103_0 {id off : Nat} : afieldAddr Tryz.prog 103 (.ptr id off) 0 = some (.ptr id (off + 0)) := by simp [afieldAddr, tfield]
@[simp] theorem fieldAddr103_0c {x : AV} {off : Nat} : afieldAddr Tryz.prog 103 (.cptr x off) 0 = some (.cptr x (off + 0)) := by simp [afieldAddr, tfield]
@[simp] theorem fieldAddr103_1 {id off : Nat} : afieldAddr Tryz.prog 103 (.ptr id off) 1 = some (.ptr id (off + 1)) := by simp [afieldAddr, tfield]
@[simp] theorem fieldAddr103_1c {x : AV} {off : Nat} : afieldAddr Tryz.prog 103 (.cptr x off) 1 = some (.cptr x (off + 1)) := by simp [afieldAddr, tfield]
attribute [simp] Tryz.underlying105
@[simp] theorem tagg105 : tagg Tryz.prog 105 = some false := by kernel_rfl
@[simp] theorem tsize105 : tsize Tryz.prog 105 = some 1 := by kernel_rfl
@[simp] theorem tbytes105 : tbytes Tryz.prog 105 = some 8 := by kernel_rfl
@[simp] theorem tzero105 : tzero Tryz.prog 105 = some (.sc (.nilFunc)) := by kernel_rfl
attribute [simp] Tryz.underlying106
@[simp] theorem tagg106 : tagg Tryz.prog 106 = some false := by kernel_rfl
@[simp] theorem tsize106 : tsize Tryz.prog 106 = some 1 := by kernel_rfl
@[simp] theorem tbytes106 : tbytes Tryz.prog 106 = some 8 := by kernel_rfl
@[simp] theorem tzero106 : tzero Tryz.prog 106 = some (.sc (.nilFunc)) := by kernel_rfl
attribute [simp] Tryz.underlying108
@[simp] theorem tagg108 : tagg Tryz.prog 108 = some false := by kernel_rfl
@[simp] theorem tsize108 : tsize Tryz.prog 108 = some 1 := by kernel_rfl
@[simp] theorem tbytes108 : tbytes Tryz.prog 108 = some 8 := by kernel_rfl
@[simp] theorem tzero108 : tzero Tryz.prog 108 = some (.sc (.nilFunc)) := by kernel_rfl
attribute [simp] Tryz.underlying109
@[simp] theorem tagg109 : tagg Tryz.prog 109 = some false := by kernel_rfl
@[simp] theorem tsize109 : tsize Tryz.prog 109 = some 1 := by kernel_rfl
@[simp] theorem tbytes109 : tbytes Tryz.prog 109 = some 8 := by kernel_rfl
@[simp] theorem tzero109 : tzero Tryz.prog 109 = some (.sc (.nilFunc)) := by kernel_rfl
attribute [simp] Tryz.underlying110
@[simp] theorem tagg110 : tagg Tryz.prog 110 = some false := by kernel_rfl
@[simp] theorem tsize110 : tsize Tryz.prog 110 = some 1 := by kernel_rfl
@[simp] theorem tbytes110 : tbytes Tryz.prog 110 = some 8 := by kernel_rfl
@[simp] theorem tzero110 : tzero Tryz.prog 110 = some (.sc (.nilFunc)) := by kernel_rfl
attribute [simp] Tryz.underlying111
@[simp] theorem tagg111 : tagg Tryz.prog 111 = some false := by kernel_rfl
@[simp] theorem tsize111 : tsize Tryz.prog 111 = some 1 := by kernel_rfl
@[simp] theorem tbytes111 : tbytes Tryz.prog 111 = some 8 := by kernel_rfl
@[simp] theorem tzero111 : tzero Tryz.prog 111 = some (.sc (.nilFunc)) := by kernel_rfl
attribute [simp] Tryz.underlying112
@[simp] theorem tagg112 : tagg Tryz.prog 112 = some false := by kernel_rfl
@[simp] theorem tsize112 : tsize Tryz.prog 112 = some 1 := by kernel_rfl
@[simp] theorem tbytes112 : tbytes Tryz.prog 112 = some 8 := by kernel_rfl
@[simp] theorem tzero112 : tzero Tryz.prog 112 = some (.sc (.nilFunc)) := by kernel_rfl
attribute [simp] Tryz.underlying113
@[simp] theorem tagg113 : tagg Tryz.prog 113 = some true := by kernel_rfl
@[simp] theorem tsize113 : tsize Tryz.prog 113 = some 3 := by kernel_rfl
@[simp] theorem tbytes113 : tbytes Tryz.prog 113 = some 56 := by kernel_rfl
@[simp] theorem tzero113 : tzero Tryz.prog 113 = some (.agg [.sc (.int .i64 0), .emp 0, .emp 0]) := by kernel_rfl
@[simp] theorem fieldAddr113_0 {id off : Nat} : afieldAddr Tryz.prog 113 (.ptr id off) 0 = some (.ptr id (off + 0)) := by simp [afieldAddr, tfield]
@[simp] theorem fieldAddr113_0c {x : AV} {off : Nat} : afieldAddr Tryz.prog 113 (.cptr x off) 0 = some (.cptr x (off + 0)) := by simp [afieldAddr, tfield]
@[simp] theorem fieldAddr113_1 {id off : Nat} : afieldAddr Tryz.prog 113 (.ptr id off) 1 = some (.ptr id (off + 1)) := by simp [afieldAddr, tfield]
@[simp] theorem fieldAddr113_1c {x : AV} {off : Nat} : afieldAddr Tryz.prog 113 (.cptr x off) 1 = some (.cptr x (off + 1)) := by simp [afieldAddr, tfield]
@[simp] theorem fieldAddr113_2 {id off : Nat} : afieldAddr Tryz.prog 113 (.ptr id off) 2 = some (.ptr id (off + 2)) := by simp [afieldAddr, tfield]
@[simp] theorem fieldAddr113_2c {x : AV} {off : Nat} : afieldAddr Tryz.prog 113 (.cptr x off) 2 = some (.cptr x (off + 2)) := by simp [afieldAddr, tfield]
attribute [simp] Tryz.underlying114
@[simp] theorem tagg114 : tagg Tryz.prog 114 = some true := by kernel_rfl
@[simp] theorem tsize114 : tsize Tryz.prog 114 = some 3 := by kernel_rfl
@[simp] theorem tbytes114 : tbytes Tryz.prog 114 = some 56 := by kernel_rfl
@[simp] theorem tzero114 : tzero Tryz.prog 114 = some (.agg [.sc (.int .i64 0), .emp 0, .emp 0]) := by kernel_rfl
@[simp] theorem fieldAddr114_0 {id off : Nat} : afieldAddr Tryz.prog 114 (.ptr id off) 0 = some (.ptr id (off + 0)) := by simp [afieldAddr, tfield]
@[simp] theorem fieldAddr114_0c {x : AV} {off : Nat} : afieldAddr Tryz.prog 114 (.cptr x off) 0 = some (.cptr x (off + 0)) := by simp [afieldAddr, tfield]
@[simp] theorem fieldAddr114_1 {id off : Nat} : afieldAddr Tryz.prog 114 (.ptr id off) 1 = some (.ptr id (off + 1)) := by simp [afieldAddr, tfield]
@[simp] theorem fieldAddr114_1c {x : AV} {off : Nat} : afieldAddr Tryz.prog 114 (.cptr x off) 1 = some (.cptr x (off + 1)) := by simp [afieldAddr, tfield]
@[simp] theorem fieldAddr114_2 {id off : Nat} : afieldAddr Tryz.prog 114 (.ptr id off) 2 = some (.ptr id (off + 2)) := by simp [afieldAddr, tfield]
@[simp] theorem fieldAddr114_2c {x : AV} {off : Nat} : afieldAddr Tryz.prog 114 (.cptr x off) 2 = some (.cptr x (off + 2)) := by simp [afieldAddr, tfield]
attribute [simp] Tryz.underlying116
@[simp] theorem tagg116 : tagg Tryz.prog 116 = some false := by kernel_rfl
@[simp] theorem tsize116 : tsize Tryz.prog 116 = some 1 := by kernel_rfl
@[simp] theorem tbytes116 : tbytes Tryz.prog 116 = some 8 := by kernel_rfl
@[simp] theorem tzero116 : tzero Tryz.prog 116 = some (.sc (.nilFunc)) := by kernel_rfl
attribute [simp] Tryz.underlying118
@[simp] theorem tagg118 : tagg Tryz.prog 118 = some false := by kernel_rfl
@[simp] theorem tsize118 : tsize Tryz.prog 118 = some 1 := by kernel_rfl
@[simp] theorem tbytes118 : tbytes Tryz.prog 118 = some 8 := by kernel_rfl
@[simp] theorem tzero118 : tzero Tryz.prog 118 = some (.sc (.nilFunc)) := by kernel_rfl
attribute [simp] Tryz.underlying119
@[simp] theorem tagg119 : tagg Tryz.prog 119 = some false := by kernel_rfl
@[simp] theorem tsize119 : tsize Tryz.prog 119 = some 1 := by kernel_rfl
@[simp] theorem tbytes119 : tbytes Tryz.prog 119 = some 8 := by kernel_rfl
@[simp] theorem tzero119 : tzero Tryz.prog 119 = some (.sc (.map Option.none)) := by kernel_rfl
@[simp] theorem tmap119 : tmap Tryz.prog 119 = some (3, 3) := by kernel_rfl
attribute [simp] Tryz.underlying120
@[simp] theorem tagg120 : tagg Tryz.prog 120 = some false := by kernel_rfl
@[simp] theorem tsize120 : tsize Tryz.prog 120 = some 1 := by kernel_rfl
@[simp] theorem tbytes120 : tbytes Tryz.prog 120 = some 8 := by kernel_rfl
@[simp] theorem tzero120 : tzero Tryz.prog 120 = some (.sc (.nilFunc)) := by kernel_rfl
attribute [simp] Tryz.underlying121
@[simp] theorem tagg121 : tagg Tryz.prog 121 = some false := by kernel_rfl
@[simp] theorem tsize121 : tsize Tryz.prog 121 = some 1 := by kernel_rfl
@[simp] theorem tbytes121 : tbytes Tryz.prog 121 = some 8 := by kernel_rfl
@[simp] theorem tzero121 : tzero Tryz.prog 121 = some (.sc (.nilFunc)) := by kernel_rfl
attribute [simp] Tryz.underlying122
@[simp] theorem tagg122 : tagg Tryz.prog 122 = some false := by kernel_rfl
@[simp] theorem tsize122 : tsize Tryz.prog 122 = some 1 := by kernel_rfl
@[simp] theorem tbytes122 : tbytes Tryz.prog 122 = some 8 := by kernel_rfl
@[simp] theorem tzero122 : tzero Tryz.prog 122 = some (.sc (.nilFunc)) := by kernel_rfl
attribute [simp] Tryz.underlying123
@[simp] theorem tagg123 : tagg Tryz.prog 123 = some false := by kernel_rfl
@[simp] theorem tsize123 : tsize Tryz.prog 123 = some 1 := by kernel_rfl
@[simp] theorem tbytes123 : tbytes Tryz.prog 123 = some 8 := by kernel_rfl
@[simp] theorem tzero123 : tzero Tryz.prog 123 = some (.sc (.nilFunc)) := by kernel_rfl
attribute [simp] Tryz.underlying124
@[simp] theorem tagg124 : tagg Tryz.prog 124 = some false := by kernel_rfl
@[simp] theorem tsize124 : tsize Tryz.prog 124 = some 1 := by kernel_rfl
@[simp] theorem tbytes124 : tbytes Tryz.prog 124 = some 8 := by kernel_rfl
@[simp] theorem tzero124 : tzero Tryz.prog 124 = some (.sc (.nilFunc)) := by kernel_rfl
attribute [simp] Tryz.underlying125
@[simp] theorem tagg125 : tagg Tryz.prog 125 = some false := by kernel_rfl
@[simp] theorem tsize125 : tsize Tryz.prog 125 = some 1 := by kernel_rfl
@[simp] theorem tbytes125 : tbytes Tryz.prog 125 = some 8 := by kernel_rfl
@[simp] theorem tzero125 : tzero Tryz.prog 125 = some (.sc (.nilFunc)) := by kernel_rfl
attribute [simp] Tryz.underlying126
@[simp] theorem tagg126 : tagg Tryz.prog 126 = some false := by kernel_rfl
@[simp] theorem tsize126 : tsize Tryz.prog 126 = some 1 := by kernel_rfl
@[simp] theorem tbytes126 : tbytes Tryz.prog 126 = some 8 := by kernel_rfl
@[simp] theorem tzero126 : tzero Tryz.prog 126 = some (.sc (.nilFunc)) := by kernel_rfl
attribute [simp] Tryz.underlying127
@[simp] theorem tagg127 : tagg Tryz.prog 127 = some false := by kernel_rfl
@[simp] theorem tsize127 : tsize Tryz.prog 127 = some 1 := by kernel_rfl
@[simp] theorem tbytes127 : tbytes Tryz.prog 127 = some 8 := by kernel_rfl
@[simp] theorem tzero127 : tzero Tryz.prog 127 = some (.sc (.nilFunc)) := by kernel_rfl
attribute [simp] Tryz.underlying128
@[simp] theorem tagg128 : tagg Tryz.prog 128 = some false := by kernel_rfl
@[simp] theorem tsize128 : tsize Tryz.prog 128 = some 1 := by kernel_rfl
@[simp] theorem tbytes128 : tbytes Tryz.prog 128 = some 8 := by kernel_rfl
@[simp] theorem tzero128 : tzero Tryz.prog 128 = some (.sc (.nilFunc)) := by kernel_rfl
attribute [simp] Tryz.underlying129
@[simp] theorem tagg129 : tagg Tryz.prog 129 = some false := by kernel_rfl
@[simp] theorem tsize129 : tsize Tryz.prog 129 = some 1 := by kernel_rfl
@[simp] theorem tbytes129 : tbytes Tryz.prog 129 = some 8 := by kernel_rfl
@[simp] theorem tzero129 : tzero Tryz.prog 129 = some (.sc (.pointer Option.none)) := by kernel_rfl
attribute [simp] Tryz.underlying130
@[simp] theorem tagg130 : tagg Tryz.prog 130 = some false := by kernel_rfl
@[simp] theorem tsize130 : tsize Tryz.prog 130 = some 1 := by kernel_rfl
@[simp] theorem tbytes130 : tbytes Tryz.prog 130 = some 8 := by kernel_rfl
@[simp] theorem tzero130 : tzero Tryz.prog 130 = some (.sc (.nilFunc)) := by kernel_rfl
attribute [simp] Tryz.underlying131
@[simp] theorem tagg131 : tagg Tryz.prog 131 = some true := by kernel_rfl
@[simp] theorem tsize131 : tsize Tryz.prog 131 = some 3 := by kernel_rfl
@[simp] theorem tbytes131 : tbytes Tryz.prog 131 = some 56 := by kernel_rfl
@[simp] theorem tzero131 : tzero Tryz.prog 131 = some (.agg [.emp 0, .emp 0, .sc (.int .i64 0)]) := by kernel_rfl
@[simp] theorem fieldAddr131_0 {id off : Nat} : afieldAddr Tryz.prog 131 (.ptr id off) 0 = some (.ptr id (off + 0)) := by simp [afieldAddr, tfield]
@[simp] theorem fieldAddr131_0c {x : AV} {off : Nat} : afieldAddr Tryz.prog 131 (.cptr x off) 0 = some (.cptr x (off + 0)) := by simp [afieldAddr, tfield]
@[simp] theorem fieldAddr131_1 {id off : Nat} : afieldAddr Tryz.prog 131 (.ptr id off) 1 = some (.ptr id (off + 1)) := by simp [afieldAddr, tfield]
@[simp] theorem fieldAddr131_1c {x : AV} {off : Nat} : afieldAddr Tryz.prog 131 (.cptr x off) 1 = some (.cptr x (off + 1)) := by simp [afieldAddr, tfield]
@[simp] theorem fieldAddr131_2 {id off : Nat} : afieldAddr Tryz.prog 131 (.ptr id off) 2 = some (.ptr id (off + 2)) := by simp [afieldAddr, tfield]
@[simp] theorem fieldAddr131_2c {x : AV} {off : Nat} : afieldAddr Tryz.prog 131 (.cptr x off) 2 = some (.cptr x (off + 2)) := by simp [afieldAddr, tfield]
attribute [simp] Tryz.underlying132
@[simp] theorem tagg132 : tagg Tryz.prog 132 = some true := by kernel_rfl
@[simp] theorem tsize132 : tsize Tryz.prog 132 = some 3 := by kernel_rfl
@[simp] theorem tbytes132 : tbytes Tryz.prog 132 = some 56 := by kernel_rfl
@[simp] theorem tzero132 : tzero Tryz.prog 132 = some (.agg [.emp 0, .emp 0, .sc (.int .i64 0)]) := by kernel_rfl
@[simp] theorem fieldAddr132_0 {id off : Nat} : afieldAddr Tryz.prog 132 (.ptr id off) 0 = some (.ptr id (off + 0)) := by simp [afieldAddr, tfield]
@[simp] theorem fieldAddr132_0c {x : AV} {off : Nat} : afieldAddr Tryz.prog 132 (.cptr x off) 0 = some (.cptr x (off + 0)) := by simp [afieldAddr, tfield]
@[simp] theorem fieldAddr132_1 {id off : Nat} : afieldAddr Tryz.prog 132 (.ptr id off) 1 = some (.ptr id (off + 1)) := by simp [afieldAddr, tfield]
@[simp] theorem fieldAddr132_1c {x : AV} {off : Nat} : afieldAddr Tryz.prog 132 (.cptr x off) 1 = some (.cptr x (off + 1)) := by simp [afieldAddr, tfield]
@[simp] theorem fieldAddr132_2 {id off : Nat} : afieldAddr Tryz.prog 132 (.ptr id off) 2 = some (.ptr id (off + 2)) := by simp [afieldAddr, tfield]
@[simp] theorem fieldAddr132_2c {x : AV} {off : Nat} : afieldAddr Tryz.prog 132 (.cptr x off) 2 = some (.cptr x (off + 2)) := by simp [afieldAddr, tfield]
attribute [simp] Tryz.underlying133
@[simp] theorem tagg133 : tagg Tryz.prog 133 = some false := by kernel_rfl
@[simp] theorem tsize133 : tsize Tryz.prog 133 = some 1 := by kernel_rfl
@[simp] theorem tbytes133 : tbytes Tryz.prog 133 = some 8 := by kernel_rfl
@[simp] theorem tzero133 : tzero Tryz.prog 133 = some (.sc (.nilFunc)) := by kernel_rfl
attribute [simp] Tryz.underlying134
@[simp] theorem tagg134 : tagg Tryz.prog 134 = some false := by kernel_rfl
@[simp] theorem tsize134 : tsize Tryz.prog 134 = some 1 := by kernel_rfl
@[simp] theorem tbytes134 : tbytes Tryz.prog 134 = some 8 := by kernel_rfl
@[simp] theorem tzero134 : tzero Tryz.prog 134 = some (.sc (.nilFunc)) := by kernel_rfl
attribute [simp] Tryz.underlying135
@[simp] theorem tagg135 : tagg Tryz.prog 135 = some false := by kernel_rfl
@[simp] theorem tsize135 : tsize Tryz.prog 135 = some 1 := by kernel_rfl
@[simp] theorem tbytes135 : tbytes Tryz.prog 135 = some 8 := by kernel_rfl
@[simp] theorem tzero135 : tzero Tryz.prog 135 = some (.sc (.pointer Option.none)) := by kernel_rfl
attribute [simp] Tryz.underlying136
@[simp] theorem tagg136 : tagg Tryz.prog 136 = some false := by kernel_rfl
@[simp] theorem tsize136 : tsize Tryz.prog 136 = some 1 := by kernel_rfl
@[simp] theorem tbytes136 : tbytes Tryz.prog 136 = some 8 := by kernel_rfl
@[simp] theorem tzero136 : tzero Tryz.prog 136 = some (.sc (.nilFunc)) := by kernel_rfl
attribute [simp] Tryz.underlying137
@[simp] theorem tagg137 : tagg Tryz.prog 137 = some false := by kernel_rfl
@[simp] theorem tsize137 : tsize Tryz.prog 137 = some 1 := by kernel_rfl
@[simp] theorem tbytes137 : tbytes Tryz.prog 137 = some 8 := by kernel_rfl
@[simp] theorem tzero137 : tzero Tryz.prog 137 = some (.sc (.nilFunc)) := by kernel_rfl
attribute [simp] Tryz.underlying138
@[simp] theorem tagg138 : tagg Tryz.prog 138 = some false := by kernel_rfl
@[simp] theorem tsize138 : tsize Tryz.prog 138 = some 1 := by kernel_rfl
@[simp] theorem tbytes138 : tbytes Tryz.prog 138 = some 8 := by kernel_rfl
@[simp] theorem tzero138 : tzero Tryz.prog 138 = some (.sc (.nilFunc)) := by kernel_rfl
attribute [simp] Tryz.underlying139
@[simp] theorem tagg139 : tagg Tryz.prog 139 = some false := by kernel_rfl
@[simp] theorem tsize139 : tsize Tryz.prog 139 = some 1 := by kernel_rfl
@[simp] theorem tbytes139 : tbytes Tryz.prog 139 = some 8 := by kernel_rfl
@[simp] theorem tzero139 : tzero Tryz.prog 139 = some (.sc (.nilFunc)) := by kernel_rfl
attribute [simp] Tryz.underlying140
@[simp] theorem tagg140 : tagg Tryz.prog 140 = some false := by kernel_rfl
@[simp] theorem tsize140 : tsize Tryz.prog 140 = some 1 := by kernel_rfl
@[simp] theorem tbytes140 : tbytes Tryz.prog 140 = some 8 := by kernel_rfl
@[simp] theorem tzero140 : tzero Tryz.prog 140 = some (.sc (.nilFunc)) := by kernel_rfl
attribute [simp] Tryz.underlying142
@[simp] theorem tagg142 : tagg Tryz.prog 142 = some false := by kernel_rfl
@[simp] theorem tsize142 : tsize Tryz.prog 142 = some 1 := by kernel_rfl
@[simp] theorem tbytes142 : tbytes Tryz.prog 142 = some 8 := by kernel_rfl
@[simp] theorem tzero142 : tzero Tryz.prog 142 = some (.sc (.nilFunc)) := by kernel_rfl
attribute [simp] Tryz.underlying143
@[simp] theorem tagg143 : tagg Tryz.prog 143 = some false := by kernel_rfl
@[simp] theorem tsize143 : tsize Tryz.prog 143 = some 1 := by kernel_rfl
@[simp] theorem tbytes143 : tbytes Tryz.prog 143 = some 8 := by kernel_rfl
@[simp] theorem tzero143 : tzero Tryz.prog 143 = some (.sc (.nilFunc)) := by kernel_rfl
attribute [simp] Tryz.underlying144
@[simp] theorem tagg144 : tagg Tryz.prog 144 = some false := by kernel_rfl
@[simp] theorem tsize144 : tsize Tryz.prog 144 = some 1 := by kernel_rfl
@[simp] theorem tbytes144 : tbytes Tryz.prog 144 = some 8 := by kernel_rfl
@[simp] theorem tzero144 : tzero Tryz.prog 144 = some (.sc (.nilFunc)) := by kernel_rfl
attribute [simp] Tryz.underlying145
@[simp] theorem tagg145 : tagg Tryz.prog 145 = some false := by kernel_rfl
@[simp] theorem tsize145 : tsize Tryz.prog 145 = some 1 := by kernel_rfl
@[simp] theorem tbytes145 : tbytes Tryz.prog 145 = some 8 := by kernel_rfl
@[simp] theorem tzero145 : tzero Tryz.prog 145 = some (.sc (.nilFunc)) := by kernel_rfl
attribute [simp] Tryz.underlying146
@[simp] theorem tagg146 : tagg Tryz.prog 146 = some false := by kernel_rfl
@[simp] theorem tsize146 : tsize Tryz.prog 146 = some 1 := by kernel_rfl
@[simp] theorem tbytes146 : tbytes Tryz.prog 146 = some 8 := by kernel_rfl
@[simp] theorem tzero146 : tzero Tryz.prog 146 = some (.sc (.pointer Option.none)) := by kernel_rfl
attribute [simp] Tryz.underlying147
@[simp] theorem tagg147 : tagg Tryz.prog 147 = some false := by kernel_rfl
@[simp] theorem tsize147 : tsize Tryz.prog 147 = some 1 := by kernel_rfl
@[simp] theorem tbytes147 : tbytes Tryz.prog 147 = some 8 := by kernel_rfl
@[simp] theorem tzero147 : tzero Tryz.prog 147 = some (.sc (.nilFunc)) := by kernel_rfl
attribute [simp] Tryz.underlying148
@[simp] theorem tagg148 : tagg Tryz.prog 148 = some false := by kernel_rfl
@[simp] theorem tsize148 : tsize Tryz.prog 148 = some 1 := by kernel_rfl
@[simp] theorem tbytes148 : tbytes Tryz.prog 148 = some 8 := by kernel_rfl
@[simp] theorem tzero148 : tzero Tryz.prog 148 = some (.sc (.nilFunc)) := by kernel_rfl
attribute [simp] Tryz.underlying149
@[simp] theorem tagg149 : tagg Tryz.prog 149 = some false := by kernel_rfl
@[simp] theorem tsize149 : tsize Tryz.prog 149 = some 1 := by kernel_rfl
@[simp] theorem tbytes149 : tbytes Tryz.prog 149 = some 8 := by kernel_rfl
@[simp] theorem tzero149 : tzero Tryz.prog 149 = some (.sc (.nilFunc)) := by kernel_rfl
attribute [simp] Tryz.underlying151
@[simp] theorem tagg151 : tagg Tryz.prog 151 = some false := by kernel_rfl
@[simp] theorem tsize151 : tsize Tryz.prog 151 = some 1 := by kernel_rfl
@[simp] theorem tbytes151 : tbytes Tryz.prog 151 = some 8 := by kernel_rfl
@[simp] theorem tzero151 : tzero Tryz.prog 151 = some (.sc (.nilFunc)) := by kernel_rfl
attribute [simp] Tryz.underlying152
@[simp] theorem tagg152 : tagg Tryz.prog 152 = some false := by kernel_rfl
@[simp] theorem tsize152 : tsize Tryz.prog 152 = some 1 := by kernel_rfl
@[simp] theorem tbytes152 : tbytes Tryz.prog 152 = some 8 := by kernel_rfl
@[simp] theorem tzero152 : tzero Tryz.prog 152 = some (.sc (.nilFunc)) := by kernel_rfl
attribute [simp] Tryz.underlying153
@[simp] theorem tagg153 : tagg Tryz.prog 153 = some false := by kernel_rfl
@[simp] theorem tsize153 : tsize Tryz.prog 153 = some 1 := by kernel_rfl
@[simp] theorem tbytes153 : tbytes Tryz.prog 153 = some 8 := by kernel_rfl
@[simp] theorem tzero153 : tzero Tryz.prog 153 = some (.sc (.nilFunc)) := by kernel_rfl
attribute [simp] Tryz.underlying154
@[simp] theorem tagg154 : tagg Tryz.prog 154 = some false := by kernel_rfl
@[simp] theorem tsize154 : tsize Tryz.prog 154 = some 1 := by kernel_rfl
@[simp] theorem tbytes154 : tbytes Tryz.prog 154 = some 8 := by kernel_rfl
@[simp] theorem tzero154 : tzero Tryz.prog 154 = some (.sc (.nilFunc)) := by kernel_rfl
attribute [simp] Tryz.underlying155
@[simp] theorem tagg155 : tagg Tryz.prog 155 = some false := by kernel_rfl
@[simp] theorem tsize155 : tsize Tryz.prog 155 = some 1 := by kernel_rfl
@[simp] theorem tbytes155 : tbytes Tryz.prog 155 = some 8 := by kernel_rfl
@[simp] theorem tzero155 : tzero Tryz.prog 155 = some (.sc (.nilFunc)) := by kernel_rfl
attribute [simp] Tryz.underlying157
@[simp] theorem tagg157 : tagg Tryz.prog 157 = some false := by kernel_rfl
@[simp] theorem tsize157 : tsize Tryz.prog 157 = some 1 := by kernel_rfl
@[simp] theorem tbytes157 : tbytes Tryz.prog 157 = some 8 := by kernel_rfl
@[simp] theorem tzero157 : tzero Tryz.prog 157 = some (.sc (.nilFunc)) := by kernel_rfl
attribute [simp] Tryz.underlying158
@[simp] theorem tagg158 : tagg Tryz.prog 158 = some false := by kernel_rfl
@[simp] theorem tsize158 : tsize Tryz.prog 158 = some 1 := by kernel_rfl
@[simp] theorem tbytes158 : tbytes Tryz.prog 158 = some 8 := by kernel_rfl
@[simp] theorem tzero158 : tzero Tryz.prog 158 = some (.sc (.nilFunc)) := by kernel_rfl
attribute [simp] Tryz.underlying159
@[simp] theorem tagg159 : tagg Tryz.prog 159 = some false := by kernel_rfl
@[simp] theorem tsize159 : tsize Tryz.prog 159 = some 1 := by kernel_rfl
@[simp] theorem tbytes159 : tbytes Tryz.prog 159 = some 8 := by kernel_rfl
@[simp] theorem tzero159 : tzero Tryz.prog 159 = some (.sc (.nilFunc)) := by kernel_rfl
attribute [simp] Tryz.underlying160
@[simp] theorem tagg160 : tagg Tryz.prog 160 = some false := by kernel_rfl
@[simp] theorem tsize160 : tsize Tryz.prog 160 = some 1 := by kernel_rfl
@[simp] theorem tbytes160 : tbytes Tryz.prog 160 = some 8 := by kernel_rfl
@[simp] theorem tzero160 : tzero Tryz.prog 160 = some (.sc (.nilFunc)) := by kernel_rfl
attribute [simp] Tryz.underlying161
@[simp] theorem tagg161 : tagg Tryz.prog 161 = some false := by kernel_rfl
@[simp] theorem tsize161 : tsize Tryz.prog 161 = some 1 := by kernel_rfl
@[simp] theorem tbytes161 : tbytes Tryz.prog 161 = some 24 := by kernel_rfl
@[simp] theorem tzero161 : tzero Tryz.prog 161 = some (.emp 0) := by kernel_rfl
@[simp] theorem telem161 : telem Tryz.prog 161 = some 43 := by kernel_rfl
@[simp] theorem nofz161 : nofz Tryz.prog 161 = false := by kernel_rfl
attribute [simp] Tryz.underlying162
@[simp] theorem tagg162 : tagg Tryz.prog 162 = some false := by kernel_rfl
@[simp] theorem tsize162 : tsize Tryz.prog 162 = some 1 := by kernel_rfl
@[simp] theorem tbytes162 : tbytes Tryz.prog 162 = some 8 := by kernel_rfl
@[simp] theorem tzero162 : tzero Tryz.prog 162 = some (.sc (.nilFunc)) := by kernel_rfl
attribute [simp] Tryz.underlying163
@[simp] theorem tagg163 : tagg Tryz.prog 163 = some false := by kernel_rfl
@[simp] theorem tsize163 : tsize Tryz.prog 163 = some 1 := by kernel_rfl
@[simp] theorem tbytes163 : tbytes Tryz.prog 163 = some 8 := by kernel_rfl
@[simp] theorem tzero163 : tzero Tryz.prog 163 = some (.sc (.nilFunc)) := by kernel_rfl
attribute [simp] Tryz.underlying164
@[simp] theorem tagg164 : tagg Tryz.prog 164 = some false := by kernel_rfl
@[simp] theorem tsize164 : tsize Tryz.prog 164 = some 1 := by kernel_rfl
@[simp] theorem tbytes164 : tbytes Tryz.prog 164 = some 8 := by kernel_rfl
@[simp] theorem tzero164 : tzero Tryz.prog 164 = some (.sc (.nilFunc)) := by kernel_rfl
attribute [simp] Tryz.underlying165
@[simp] theorem tagg165 : tagg Tryz.prog 165 = some false := by kernel_rfl
@[simp] theorem tsize165 : tsize Tryz.prog 165 = some 1 := by kernel_rfl
@[simp] theorem tbytes165 : tbytes Tryz.prog 165 = some 8 := by kernel_rfl
@[simp] theorem tzero165 : tzero Tryz.prog 165 = some (.sc (.nilFunc)) := by kernel_rfl
attribute [simp] Tryz.underlying166
@[simp] theorem tagg166 : tagg Tryz.prog 166 = some false := by kernel_rfl
@[simp] theorem tsize166 : tsize Tryz.prog 166 = some 1 := by kernel_rfl
@[simp] theorem tbytes166 : tbytes Tryz.prog 166 = some 8 := by kernel_rfl
@[simp] theorem tzero166 : tzero Tryz.prog 166 = some (.sc (.nilFunc)) := by kernel_rfl
attribute [simp] Tryz.underlying167
@[simp] theorem tagg167 : tagg Tryz.prog 167 = some false := by kernel_rfl
@[simp] theorem tsize167 : tsize Tryz.prog 167 = some 1 := by kernel_rfl
@[simp] theorem tbytes167 : tbytes Tryz.prog 167 = some 8 := by kernel_rfl
@[simp] theorem tzero167 : tzero Tryz.prog 167 = some (.sc (.nilFunc)) := by kernel_rfl
attribute [simp] Tryz.underlying168
@[simp] theorem tagg168 : tagg Tryz.prog 168 = some false := by kernel_rfl
@[simp] theorem tsize168 : tsize Tryz.prog 168 = some 1 := by kernel_rfl
@[simp] theorem tbytes168 : tbytes Tryz.prog 168 = some 8 := by kernel_rfl
@[simp] theorem tzero168 : tzero Tryz.prog 168 = some (.sc (.nilFunc)) := by kernel_rfl
attribute [simp] Tryz.underlying169
@[simp] theorem tagg169 : tagg Tryz.prog 169 = some false := by kernel_rfl
@[simp] theorem tsize169 : tsize Tryz.prog 169 = some 1 := by kernel_rfl
@[simp] theorem tbytes169 : tbytes Tryz.prog 169 = some 8 := by kernel_rfl
@[simp] theorem tzero169 : tzero Tryz.prog 169 = some (.sc (.nilFunc)) := by kernel_rfl
attribute [simp] Tryz.underlying170
@[simp] theorem tagg170 : tagg Tryz.prog 170 = some false := by kernel_rfl
@[simp] theorem tsize170 : tsize Tryz.prog 170 = some 1 := by kernel_rfl
@[simp] theorem tbytes170 : tbytes Tryz.prog 170 = some 8 := by kernel_rfl
@[simp] theorem tzero170 : tzero Tryz.prog 170 = some (.sc (.nilFunc)) := by kernel_rfl
attribute [simp] Tryz.underlying171
@[simp] theorem tagg171 : tagg Tryz.prog 171 = some false := by kernel_rfl
@[simp] theorem tsize171 : tsize Tryz.prog 171 = some 1 := by kernel_rfl
@[simp] theorem tbytes171 : tbytes Tryz.prog 171 = some 8 := by kernel_rfl
@[simp] theorem tzero171 : tzero Tryz.prog 171 = some (.sc (.nilFunc)) := by kernel_rfl
attribute [simp] Tryz.underlying172
@[simp] theorem tagg172 : tagg Tryz.prog 172 = some false := by kernel_rfl
@[simp] theorem tsize172 : tsize Tryz.prog 172 = some 1 := by kernel_rfl
@[simp] theorem tbytes172 : tbytes Tryz.prog 172 = some 8 := by kernel_rfl
@[simp] theorem tzero172 : tzero Tryz.prog 172 = some (.sc (.nilFunc)) := by kernel_rfl
attribute [simp] Tryz.underlying173
@[simp] theorem tagg173 : tagg Tryz.prog 173 = some false := by kernel_rfl
@[simp] theorem tsize173 : tsize Tryz.prog 173 = some 1 := by kernel_rfl
@[simp] theorem tbytes173 : tbytes Tryz.prog 173 = some 8 := by kernel_rfl
@[simp] theorem tzero173 : tzero Tryz.prog 173 = some (.sc (.nilFunc)) := by kernel_rfl
attribute [simp] Tryz.underlying174
@[simp] theorem tagg174 : tagg Tryz.prog 174 = some false := by kernel_rfl
@[simp] theorem tsize174 : tsize Tryz.prog 174 = some 1 := by kernel_rfl
@[simp] theorem tbytes174 : tbytes Tryz.prog 174 = some 8 := by kernel_rfl
@[simp] theorem tzero174 : tzero Tryz.prog 174 = some (.sc (.nilFunc)) := by kernel_rfl
attribute [simp] Tryz.underlying175
@[simp] theorem tagg175 : tagg Tryz.prog 175 = some false := by kernel_rfl
@[simp] theorem tsize175 : tsize Tryz.prog 175 = some 1 := by kernel_rfl
@[simp] theorem tbytes175 : tbytes Tryz.prog 175 = some 24 := by kernel_rfl
@[simp] theorem tzero175 : tzero Tryz.prog 175 = some (.emp 0) := by kernel_rfl
@[simp] theorem telem175 : telem Tryz.prog 175 = some 66 := by kernel_rfl
@[simp] theorem nofz175 : nofz Tryz.prog 175 = false := by kernel_rfl
attribute [simp] Tryz.underlying176
@[simp] theorem tagg176 : tagg Tryz.prog 176 = some false := by kernel_rfl
@[simp] theorem tsize176 : tsize Tryz.prog 176 = some 1 := by kernel_rfl
@[simp] theorem tbytes176 : tbytes Tryz.prog 176 = some 8 := by kernel_rfl
@[simp] theorem tzero176 : tzero Tryz.prog 176 = some (.sc (.nilFunc)) := by kernel_rfl
attribute [simp] Tryz.underlying177
@[simp] theorem tagg177 : tagg Tryz.prog 177 = some false := by kernel_rfl
@[simp] theorem tsize177 : tsize Tryz.prog 177 = some 1 := by kernel_rfl
@[simp] theorem tbytes177 : tbytes Tryz.prog 177 = some 8 := by kernel_rfl
@[simp] theorem tzero177 : tzero Tryz.prog 177 = some (.sc (.nilFunc)) := by kernel_rfl
attribute [simp] Tryz.underlying178
@[simp] theorem tagg178 : tagg Tryz.prog 178 = some false := by kernel_rfl
@[simp] theorem tsize178 : tsize Tryz.prog 178 = some 1 := by kernel_rfl
@[simp] theorem tbytes178 : tbytes Tryz.prog 178 = some 8 := by kernel_rfl
@[simp] theorem tzero178 : tzero Tryz.prog 178 = some (.sc (.nilFunc)) := by kernel_rfl
attribute [simp] Tryz.underlying179
@[simp] theorem tagg179 : tagg Tryz.prog 179 = some false := by kernel_rfl
@[simp] theorem tsize179 : tsize Tryz.prog 179 = some 1 := by kernel_rfl
@[simp] theorem tbytes179 : tbytes Tryz.prog 179 = some 8 := by kernel_rfl
@[simp] theorem tzero179 : tzero Tryz.prog 179 = some (.sc (.nilFunc)) := by kernel_rfl
attribute [simp] Tryz.underlying180
@[simp] theorem tagg180 : tagg Tryz.prog 180 = some false := by kernel_rfl
@[simp] theorem tsize180 : tsize Tryz.prog 180 = some 1 := by kernel_rfl
@[simp] theorem tbytes180 : tbytes Tryz.prog 180 = some 8 := by kernel_rfl
@[simp] theorem tzero180 : tzero Tryz.prog 180 = some (.sc (.nilFunc)) := by kernel_rfl
attribute [simp] Tryz.underlying181
@[simp] theorem tagg181 : tagg Tryz.prog 181 = some false := by kernel_rfl
@[simp] theorem tsize181 : tsize Tryz.prog 181 = some 1 := by kernel_rfl
@[simp] theorem tbytes181 : tbytes Tryz.prog 181 = some 8 := by kernel_rfl
@[simp] theorem tzero181 : tzero Tryz.prog 181 = some (.sc (.nilFunc)) := by kernel_rfl
attribute [simp] Tryz.underlying182
@[simp] theorem tagg182 : tagg Tryz.prog 182 = some false := by kernel_rfl
@[simp] theorem tsize182 : tsize Tryz.prog 182 = some 1 := by kernel_rfl
@[simp] theorem tbytes182 : tbytes Tryz.prog 182 = some 8 := by kernel_rfl
@[simp] theorem tzero182 : tzero Tryz.prog 182 = some (.sc (.nilFunc)) := by kernel_rfl
attribute [simp] Tryz.underlying183
@[simp] theorem tagg183 : tagg Tryz.prog 183 = some false := by kernel_rfl
@[simp] theorem tsize183 : tsize Tryz.prog 183 = some 1 := by kernel_rfl
@[simp] theorem tbytes183 : tbytes Tryz.prog 183 = some 8 := by kernel_rfl
@[simp] theorem tzero183 : tzero Tryz.prog 183 = some (.sc (.nilFunc)) := by kernel_rfl
attribute [simp] Tryz.underlying184
@[simp] theorem tagg184 : tagg Tryz.prog 184 = some false := by kernel_rfl
@[simp] theorem tsize184 : tsize Tryz.prog 184 = some 1 := by kernel_rfl
@[simp] theorem tbytes184 : tbytes Tryz.prog 184 = some 8 := by kernel_rfl
@[simp] theorem tzero184 : tzero Tryz.prog 184 = some (.sc (.nilFunc)) := by kernel_rfl
attribute [simp] Tryz.underlying185
@[simp] theorem tagg185 : tagg Tryz.prog 185 = some false := by kernel_rfl
@[simp] theorem tsize185 : tsize Tryz.prog 185 = some 1 := by kernel_rfl
@[simp] theorem tbytes185 : tbytes Tryz.prog 185 = some 8 := by kernel_rfl
@[simp] theorem tzero185 : tzero Tryz.prog 185 = some (.sc (.nilFunc)) := by kernel_rfl
attribute [simp] Tryz.underlying186
@[simp] theorem tagg186 : tagg Tryz.prog 186 = some false := by kernel_rfl
@[simp] theorem tsize186 : tsize Tryz.prog 186 = some 1 := by kernel_rfl
@[simp] theorem tbytes186 : tbytes Tryz.prog 186 = some 8 := by kernel_rfl
@[simp] theorem tzero186 : tzero Tryz.prog 186 = some (.sc (.nilFunc)) := by kernel_rfl
attribute [simp] Tryz.underlying187
@[simp] theorem tagg187 : tagg Tryz.prog 187 = some false := by kernel_rfl
@[simp] theorem tsize187 : tsize Tryz.prog 187 = some 1 := by kernel_rfl
@[simp] theorem tbytes187 : tbytes Tryz.prog 187 = some 8 := by kernel_rfl
@[simp] theorem tzero187 : tzero Tryz.prog 187 = some (.sc (.nilFunc)) := by kernel_rfl
attribute [simp] Tryz.underlying188
@[simp] theorem tagg188 : tagg Tryz.prog 188 = some false := by kernel_rfl
@[simp] theorem tsize188 : tsize Tryz.prog 188 = some 1 := by kernel_rfl
@[simp] theorem tbytes188 : tbytes Tryz.prog 188 = some 8 := by kernel_rfl
@[simp] theorem tzero188 : tzero Tryz.prog 188 = some (.sc (.nilFunc)) := by kernel_rfl
attribute [simp] Tryz.underlying189
@[simp] theorem tagg189 : tagg Tryz.prog 189 = some false := by kernel_rfl
@[simp] theorem tsize189 : tsize Tryz.prog 189 = some 1 := by kernel_rfl
@[simp] theorem tbytes189 : tbytes Tryz.prog 189 = some 8 := by kernel_rfl
@[simp] theorem tzero189 : tzero Tryz.prog 189 = some (.sc (.nilFunc)) := by kernel_rfl
attribute [simp] Tryz.underlying190
@[simp] theorem tagg190 : tagg Tryz.prog 190 = some false := by kernel_rfl
@[simp] theorem tsize190 : tsize Tryz.prog 190 = some 1 := by kernel_rfl
@[simp] theorem tbytes190 : tbytes Tryz.prog 190 = some 8 := by kernel_rfl
@[simp] theorem tzero190 : tzero Tryz.prog 190 = some (.sc (.nilFunc)) := by kernel_rfl
attribute [simp] Tryz.underlying191
@[simp] theorem tagg191 : tagg Tryz.prog 191 = some false := by kernel_rfl
@[simp] theorem tsize191 : tsize Tryz.prog 191 = some 1 := by kernel_rfl
@[simp] theorem tbytes191 : tbytes Tryz.prog 191 = some 8 := by kernel_rfl
@[simp] theorem tzero191 : tzero Tryz.prog 191 = some (.sc (.nilFunc)) := by kernel_rfl
attribute [simp] Tryz.underlying192
@[simp] theorem tagg192 : tagg Tryz.prog 192 = some false := by kernel_rfl
@[simp] theorem tsize192 : tsize Tryz.prog 192 = some 1 := by kernel_rfl
@[simp] theorem tbytes192 : tbytes Tryz.prog 192 = some 8 := by kernel_rfl
@[simp] theorem tzero192 : tzero Tryz.prog 192 = some (.sc (.nilFunc)) := by kernel_rfl
attribute [simp] Tryz.underlying193
@[simp] theorem tagg193 : tagg Tryz.prog 193 = some false := by kernel_rfl
@[simp] theorem tsize193 : tsize Tryz.prog 193 = some 1 := by kernel_rfl
@[simp] theorem tbytes193 : tbytes Tryz.prog 193 = some 8 := by kernel_rfl
@[simp] theorem tzero193 : tzero Tryz.prog 193 = some (.sc (.nilFunc)) := by kernel_rfl
attribute [simp] Tryz.underlying194
@[simp] theorem tagg194 : tagg Tryz.prog 194 = some false := by kernel_rfl
@[simp] theorem tsize194 : tsize Tryz.prog 194 = some 1 := by kernel_rfl
@[simp] theorem tbytes194 : tbytes Tryz.prog 194 = some 8 := by kernel_rfl
@[simp] theorem tzero194 : tzero Tryz.prog 194 = some (.sc (.int .u64 0)) := by kernel_rfl
attribute [simp] Tryz.underlying196
@[simp] theorem tagg196 : tagg Tryz.prog 196 = some false := by kernel_rfl
@[simp] theorem tsize196 : tsize Tryz.prog 196 = some 1 := by kernel_rfl
@[simp] theorem tbytes196 : tbytes Tryz.prog 196 = some 8 := by kernel_rfl
@[simp] theorem tzero196 : tzero Tryz.prog 196 = some (.sc (.nilFunc)) := by kernel_rfl
attribute [simp] Tryz.underlying197
@[simp] theorem tagg197 : tagg Tryz.prog 197 = some false := by kernel_rfl
@[simp] theorem tsize197 : tsize Tryz.prog 197 = some 1 := by kernel_rfl
@[simp] theorem tbytes197 : tbytes Tryz.prog 197 = some 8 := by kernel_rfl
@[simp] theorem tzero197 : tzero Tryz.prog 197 = some (.sc (.nilFunc)) := by kernel_rfl
attribute [simp] Tryz.underlying198
@[simp] theorem tagg198 : tagg Tryz.prog 198 = some false := by kernel_rfl
@[simp] theorem tsize198 : tsize Tryz.prog 198 = some 1 := by kernel_rfl
@[simp] theorem tbytes198 : tbytes Tryz.prog 198 = some 8 := by kernel_rfl
@[simp] theorem tzero198 : tzero Tryz.prog 198 = some (.sc (.nilFunc)) := by kernel_rfl
attribute [simp] Tryz.underlying199
@[simp] theorem tagg199 : tagg Tryz.prog 199 = some false := by kernel_rfl
@[simp] theorem tsize199 : tsize Tryz.prog 199 = some 1 := by kernel_rfl
@[simp] theorem tbytes199 : tbytes Tryz.prog 199 = some 8 := by kernel_rfl
@[simp] theorem tzero199 : tzero Tryz.prog 199 = some (.sc (.nilFunc)) := by kernel_rfl
attribute [simp] Tryz.underlying200
@[simp] theorem tagg200 : tagg Tryz.prog 200 = some false := by kernel_rfl
@[simp] theorem tsize200 : tsize Tryz.prog 200 = some 1 := by kernel_rfl
@[simp] theorem tbytes200 : tbytes Tryz.prog 200 = some 8 := by kernel_rfl
@[simp] theorem tzero200 : tzero Tryz.prog 200 = some (.sc (.nilFunc)) := by kernel_rfl
attribute [simp] Tryz.underlying201
@[simp] theorem tagg201 : tagg Tryz.prog 201 = some false := by kernel_rfl
@[simp] theorem tsize201 : tsize Tryz.prog 201 = some 1 := by kernel_rfl
@[simp] theorem tbytes201 : tbytes Tryz.prog 201 = some 8 := by kernel_rfl
@[simp] theorem tzero201 : tzero Tryz.prog 201 = some (.sc (.nilFunc)) := by kernel_rfl
attribute [simp] Tryz.underlying202
@[simp] theorem tagg202 : tagg Tryz.prog 202 = some false := by kernel_rfl
@[simp] theorem tsize202 : tsize Tryz.prog 202 = some 1 := by kernel_rfl
@[simp] theorem tbytes202 : tbytes Tryz.prog 202 = some 8 := by kernel_rfl
@[simp] theorem tzero202 : tzero Tryz.prog 202 = some (.sc (.nilFunc)) := by kernel_rfl
attribute [simp] Tryz.underlying203
@[simp] theorem tagg203 : tagg Tryz.prog 203 = some false := by kernel_rfl
@[simp] theorem tsize203 : tsize Tryz.prog 203 = some 1 := by kernel_rfl
@[simp] theorem tbytes203 : tbytes Tryz.prog 203 = some 8 := by kernel_rfl
@[simp] theorem tzero203 : tzero Tryz.prog 203 = some (.sc (.nilFunc)) := by kernel_rfl
attribute [simp] Tryz.underlying204
@[simp] theorem tagg204 : tagg Tryz.prog 204 = some false := by kernel_rfl
@[simp] theorem tsize204 : tsize Tryz.prog 204 = some 1 := by kernel_rfl
@[simp] theorem tbytes204 : tbytes Tryz.prog 204 = some 8 := by kernel_rfl
@[simp] theorem tzero204 : tzero Tryz.prog 204 = some (.sc (.int .u64 0)) := by kernel_rfl
attribute [simp] Tryz.underlying206
@[simp] theorem tagg206 : tagg Tryz.prog 206 = some false := by kernel_rfl
@[simp] theorem tsize206 : tsize Tryz.prog 206 = some 1 := by kernel_rfl
@[simp] theorem tbytes206 : tbytes Tryz.prog 206 = some 8 := by kernel_rfl
@[simp] theorem tzero206 : tzero Tryz.prog 206 = some (.sc (.nilFunc)) := by kernel_rfl
attribute [simp] Tryz.underlying207
@[simp] theorem tagg207 : tagg Tryz.prog 207 = some true := by kernel_rfl
@[simp] theorem tsize207 : tsize Tryz.prog 207 = some 20 := by kernel_rfl
@[simp] theorem tbytes207 : tbytes Tryz.prog 207 = some 20 := by kernel_rfl
@[simp] theorem tzero207 : tzero Tryz.prog 207 = some (.agg [.sc (.int .u8 0), .sc (.int .u8 0), .sc (.int .u8 0), .sc (.int .u8 0), .sc (.int .u8 0), .sc (.int .u8 0), .sc (.int .u8 0), .sc (.int .u8 0), .sc (.int .u8 0), .sc (.int .u8 0), .sc (.int .u8 0), .sc (.int .u8 0), .sc (.int .u8 0), .sc (.int .u8 0), .sc (.int .u8 0), .sc (.int .u8 0), .sc (.int .u8 0), .sc (.int .u8 0), .sc (.int .u8 0), .sc (.int .u8 0)]) := by kernel_rfl
@[simp] theorem tarr207 : tarr Tryz.prog 207 = some (20, 5) := by kernel_rfl
attribute [simp] Tryz.underlying208
@[simp] theorem tagg208 : tagg Tryz.prog 208 = some false := by kernel_rfl
@[simp] theorem tsize208 : tsize Tryz.prog 208 = some 1 := by kernel_rfl
@[simp] theorem tbytes208 : tbytes Tryz.prog 208 = some 8 := by kernel_rfl
@[simp] theorem tzero208 : tzero Tryz.prog 208 = some (.sc (.nilFunc)) := by kernel_rfl
attribute [simp] Tryz.underlying209
@[simp] theorem tagg209 : tagg Tryz.prog 209 = some false := by kernel_rfl
@[simp] theorem tsize209 : tsize Tryz.prog 209 = some 1 := by kernel_rfl
@[simp] theorem tbytes209 : tbytes Tryz.prog 209 = some 8 := by kernel_rfl
@[simp] theorem tzero209 : tzero Tryz.prog 209 = some (.sc (.nilFunc)) := by kernel_rfl
attribute [simp] Tryz.underlying210
@[simp] theorem tagg210 : tagg Tryz.prog 210 = some false := by kernel_rfl
@[simp] theorem tsize210 : tsize Tryz.prog 210 = some 1 := by kernel_rfl
@[simp] theorem tbytes210 : tbytes Tryz.prog 210 = some 8 := by kernel_rfl
@[simp] theorem tzero210 : tzero Tryz.prog 210 = some (.sc (.nilFunc)) := by kernel_rfl
attribute [simp] Tryz.underlying211
@[simp] theorem tagg211 : tagg Tryz.prog 211 = some false := by kernel_rfl
@[simp] theorem tsize211 : tsize Tryz.prog 211 = some 1 := by kernel_rfl
@[simp] theorem tbytes211 : tbytes Tryz.prog 211 = some 24 := by kernel_rfl
@[simp] theorem tzero211 : tzero Tryz.prog 211 = some (.emp 0) := by kernel_rfl
@[simp] theorem telem211 : telem Tryz.prog 211 = some 2 := by kernel_rfl
@[simp] theorem nofz211 : nofz Tryz.prog 211 = false := by kernel_rfl
attribute [simp] Tryz.underlying212
@[simp] theorem tagg212 : tagg Tryz.prog 212 = some false := by kernel_rfl
@[simp] theorem tsize212 : tsize Tryz.prog 212 = some 1 := by kernel_rfl
@[simp] theorem tbytes212 : tbytes Tryz.prog 212 = some 8 := by kernel_rfl
@[simp] theorem tzero212 : tzero Tryz.prog 212 = some (.sc (.nilFunc)) := by kernel_rfl
attribute [simp] Tryz.underlying213
@[simp] theorem tagg213 : tagg Tryz.prog 213 = some false := by kernel_rfl
@[simp] theorem tsize213 : tsize Tryz.prog 213 = some 1 := by kernel_rfl
@[simp] theorem tbytes213 : tbytes Tryz.prog 213 = some 4 := by kernel_rfl
@[simp] theorem tzero213 : tzero Tryz.prog 213 = some (.sc (.int .u32 0)) := by kernel_rfl
attribute [simp] Tryz.underlying215
@[simp] theorem tagg215 : tagg Tryz.prog 215 = some false := by kernel_rfl
@[simp] theorem tsize215 : tsize Tryz.prog 215 = some 1 := by kernel_rfl
@[simp] theorem tbytes215 : tbytes Tryz.prog 215 = some 8 := by kernel_rfl
@[simp] theorem tzero215 : tzero Tryz.prog 215 = some (.sc (.nilFunc)) := by kernel_rfl
attribute [simp] Tryz.underlying216
@[simp] theorem tagg216 : tagg Tryz.prog 216 = some false := by kernel_rfl
@[simp] theorem tsize216 : tsize Tryz.prog 216 = some 1 := by kernel_rfl
@[simp] theorem tbytes216 : tbytes Tryz.prog 216 = some 8 := by kernel_rfl
@[simp] theorem tzero216 : tzero Tryz.prog 216 = some (.sc (.nilFunc)) := by kernel_rfl
attribute [simp] Tryz.underlying217
@[simp] theorem tagg217 : tagg Tryz.prog 217 = some true := by kernel_rfl
@[simp] theorem tsize217 : tsize Tryz.prog 217 = some 4 := by kernel_rfl
@[simp] theorem tbytes217 : tbytes Tryz.prog 217 = some 40 := by kernel_rfl
@[simp] theorem tzero217 : tzero Tryz.prog 217 = some (.agg [.sc (.pointer Option.none), .sc (.pointer Option.none), .sc (.pointer Option.none), .sc (.string ⟨⟨[]⟩⟩)]) := by kernel_rfl
@[simp] theorem fieldAddr217_0 {id off : Nat} : afieldAddr Tryz.prog 217 (.ptr id off) 0 = some (.ptr id (off + 0)) := by simp [afieldAddr, tfield]
@[simp] theorem fieldAddr217_0c {x : AV} {off : Nat} : afieldAddr Tryz.prog 217 (.cptr x off) 0 = some (.cptr x (off + 0)) := by simp [afieldAddr, tfield]
@[simp] theorem fieldAddr217_1 {id off : Nat} : afieldAddr Tryz.prog 217 (.ptr id off) 1 = some (.ptr id (off + 1)) := by simp [afieldAddr, tfield]
@[simp] theorem fieldAddr217_1c {x : AV} {off : Nat} : afieldAddr Tryz.prog 217 (.cptr x off) 1 = some (.cptr x (off + 1)) := by simp [afieldAddr, tfield]
@[simp] theorem fieldAddr217_2 {id off : Nat} : afieldAddr Tryz.prog 217 (.ptr id off) 2 = some (.ptr id (off + 2)) := by simp [afieldAddr, tfield]
@[simp] theorem fieldAddr217_2c {x : AV} {off : Nat} : afieldAddr Tryz.prog 217 (.cptr x off) 2 = some (.cptr x (off + 2)) := by simp [afieldAddr, tfield]
@[simp] theorem fieldAddr217_3 {id off : Nat} : afieldAddr Tryz.prog 217 (.ptr id off) 3 = some (.ptr id (off + 3)) := by simp [afieldAddr, tfield]
@[simp] theorem fieldAddr217_3c {x : AV} {off : Nat} : afieldAddr Tryz.prog 217 (.cptr x off) 3 = some (.cptr x (off + 3)) := by simp [afieldAddr, tfield]
attribute [simp] Tryz.underlying218
@[simp] theorem tagg218 : tagg Tryz.prog 218 = some true := by kernel_rfl
@[simp] theorem tsize218 : tsize Tryz.prog 218 = some 4 := by kernel_rfl
@[simp] theorem tbytes218 : tbytes Tryz.prog 218 = some 40 := by kernel_rfl
@[simp] theorem tzero218 : tzero Tryz.prog 218 = some (.agg [.sc (.pointer Option.none), .sc (.pointer Option.none), .sc (.pointer Option.none), .sc (.string ⟨⟨[]⟩⟩)]) := by kernel_rfl
@[simp] theorem fieldAddr218_0 {id off : Nat} : afieldAddr Tryz.prog 218 (.ptr id off) 0 = some (.ptr id (off + 0)) := by simp [afieldAddr, tfield]
@[simp] theorem fieldAddr218_0c {x : AV} {off : Nat} : afieldAddr Tryz.prog 218 (.cptr x off) 0 = some (.cptr x (off + 0)) := by simp [afieldAddr, tfield]
@[simp] theorem fieldAddr218_1 {id off : Nat} : afieldAddr Tryz.prog 218 (.ptr id off) 1 = some (.ptr id (off + 1)) := by simp [afieldAddr, tfield]
@[simp] theorem fieldAddr218_1c {x : AV} {off : Nat} : afieldAddr Tryz.prog 218 (.cptr x off) 1 = some (.cptr x (off + 1)) := by simp [afieldAddr, tfield]
@[simp] theorem fieldAddr218_2 {id off : Nat} : afieldAddr Tryz.prog 218 (.ptr id off) 2 = some (.ptr id (off + 2)) := by simp [afieldAddr, tfield]
@[simp] theorem fieldAddr218_2c {x : AV} {off : Nat} : afieldAddr Tryz.prog 218 (.cptr x off) 2 = some (.cptr x (off + 2)) := by simp [afieldAddr, tfield]
@[simp] theorem fieldAddr218_3 {id off : Nat} : afieldAddr Tryz.prog 218 (.ptr id off) 3 = some (.ptr id (off + 3)) := by simp [afieldAddr, tfield]
@[simp] theorem fieldAddr218_3c {x : AV} {off : Nat} : afieldAddr Tryz.prog 218 (.cptr x off) 3 = some (.cptr x (off + 3)) := by simp [afieldAddr, tfield]
attribute [simp] Tryz.underlying219
@[simp] theorem tagg219 : tagg Tryz.prog 219 = some true := by kernel_rfl
@[simp] theorem tsize219 : tsize Tryz.prog 219 = some 0 := by kernel_rfl
@[simp] theorem tbytes219 : tbytes Tryz.prog 219 = some 0 := by kernel_rfl
@[simp] theorem tzero219 : tzero Tryz.prog 219 = some (.agg []) := by kernel_rfl
@[simp] theorem tarr219 : tarr Tryz.prog 219 = some (0, 16) := by kernel_rfl
attribute [simp] Tryz.underlying220
@[simp] theorem tagg220 : tagg Tryz.prog 220 = some true := by kernel_rfl
@[simp] theorem tsize220 : tsize Tryz.prog 220 = some 0 := by kernel_rfl
@[simp] theorem tbytes220 : tbytes Tryz.prog 220 = some 0 := by kernel_rfl
@[simp] theorem tzero220 : tzero Tryz.prog 220 = some (.agg []) := by kernel_rfl
attribute [simp] Tryz.underlying221
@[simp] theorem tagg221 : tagg Tryz.prog 221 = some true := by kernel_rfl
@[simp] theorem tsize221 : tsize Tryz.prog 221 = some 0 := by kernel_rfl
@[simp] theorem tbytes221 : tbytes Tryz.prog 221 = some 0 := by kernel_rfl
@[simp] theorem tzero221 : tzero Tryz.prog 221 = some (.agg []) := by kernel_rfl
attribute [simp] Tryz.underlying222
@[simp] theorem tagg222 : tagg Tryz.prog 222 = some false := by kernel_rfl
@[simp] theorem tsize222 : tsize Tryz.prog 222 = some 1 := by kernel_rfl
@[simp] theorem tbytes222 : tbytes Tryz.prog 222 = some 8 := by kernel_rfl
@[simp] theorem tzero222 : tzero Tryz.prog 222 = some (.sc (.nilFunc)) := by kernel_rfl
attribute [simp] Tryz.underlying223
@[simp] theorem tagg223 : tagg Tryz.prog 223 = some false := by kernel_rfl
@[simp] theorem tsize223 : tsize Tryz.prog 223 = some 1 := by kernel_rfl
@[simp] theorem tbytes223 : tbytes Tryz.prog 223 = some 1 := by kernel_rfl
@[simp] theorem tzero223 : tzero Tryz.prog 223 = some (.sc (.int .u8 0)) := by kernel_rfl
attribute [simp] Tryz.underlying224
@[simp] theorem tagg224 : tagg Tryz.prog 224 = some false := by kernel_rfl
@[simp] theorem tsize224 : tsize Tryz.prog 224 = some 1 := by kernel_rfl
@[simp] theorem tbytes224 : tbytes Tryz.prog 224 = some 1 := by kernel_rfl
@[simp] theorem tzero224 : tzero Tryz.prog 224 = some (.sc (.int .u8 0)) := by kernel_rfl
attribute [simp] Tryz.underlying225
@[simp] theorem tagg225 : tagg Tryz.prog 225 = some false := by kernel_rfl
@[simp] theorem tsize225 : tsize Tryz.prog 225 = some 1 := by kernel_rfl
@[simp] theorem tbytes225 : tbytes Tryz.prog 225 = some 8 := by kernel_rfl
@[simp] theorem tzero225 : tzero Tryz.prog 225 = some (.sc (.nilFunc)) := by kernel_rfl
attribute [simp] Tryz.underlying226
@[simp] theorem tagg226 : tagg Tryz.prog 226 = some false := by kernel_rfl
@[simp] theorem tsize226 : tsize Tryz.prog 226 = some 1 := by kernel_rfl
@[simp] theorem tbytes226 : tbytes Tryz.prog 226 = some 8 := by kernel_rfl
@[simp] theorem tzero226 : tzero Tryz.prog 226 = some (.sc (.pointer Option.none)) := by kernel_rfl
attribute [simp] Tryz.underlying227
@[simp] theorem tagg227 : tagg Tryz.prog 227 = some false := by kernel_rfl
@[simp] theorem tsize227 : tsize Tryz.prog 227 = some 1 := by kernel_rfl
@[simp] theorem tbytes227 : tbytes Tryz.prog 227 = some 4 := by kernel_rfl
@[simp] theorem tzero227 : tzero Tryz.prog 227 = some (.sc (.int .i32 0)) := by kernel_rfl
attribute [simp] Tryz.underlying228
@[simp] theorem tagg228 : tagg Tryz.prog 228 = some false := by kernel_rfl
@[simp] theorem tsize228 : tsize Tryz.prog 228 = some 1 := by kernel_rfl
@[simp] theorem tbytes228 : tbytes Tryz.prog 228 = some 4 := by kernel_rfl
@[simp] theorem tzero228 : tzero Tryz.prog 228 = some (.sc (.int .i32 0)) := by kernel_rfl
attribute [simp] Tryz.underlying229
@[simp] theorem tagg229 : tagg Tryz.prog 229 = some true := by kernel_rfl
@[simp] theorem tsize229 : tsize Tryz.prog 229 = some 11 := by kernel_rfl
@[simp] theorem tbytes229 : tbytes Tryz.prog 229 = some 48 := by kernel_rfl
@[simp] theorem tzero229 : tzero Tryz.prog 229 = some (.agg [.sc (.int .u64 0), .sc (.int .u64 0), .sc (.int .u32 0), .sc (.int .u8 0), .sc (.int .u8 0), .sc (.int .u8 0), .sc (.int .u8 0), .sc (.nilFunc), .sc (.pointer Option.none), .sc (.int .i32 0), .sc (.int .i32 0)]) := by kernel_rfl
@[simp] theorem fieldAddr229_0 {id off : Nat} : afieldAddr Tryz.prog 229 (.ptr id off) 0 = some (.ptr id (off + 0)) := by simp [afieldAddr, tfield]
@[simp] theorem fieldAddr229_0c {x : AV} {off : Nat} : afieldAddr Tryz.prog 229 (.cptr x off) 0 = some (.cptr x (off + 0)) := by simp [afieldAddr, tfield]
@[simp] theorem fieldAddr229_1 {id off : Nat} : afieldAddr Tryz.prog 229 (.ptr id off) 1 = some (.ptr id (off + 1)) := by simp [afieldAddr, tfield]
@[simp] theorem fieldAddr229_1c {x : AV} {off : Nat} : afieldAddr Tryz.prog 229 (.cptr x off) 1 = some (.cptr x (off + 1)) := by simp [afieldAddr, tfield]
@[simp] theorem fieldAddr229_2 {id off : Nat} : afieldAddr Tryz.prog 229 (.ptr id off) 2 = some (.ptr id (off + 2)) := by simp [afieldAddr, tfield]
@[simp] theorem fieldAddr229_2c {x : AV} {off : Nat} : afieldAddr Tryz.prog 229 (.cptr x off) 2 = some (.cptr x (off + 2)) := by simp [afieldAddr, tfield]
@[simp] theorem fieldAddr229_3 {id off : Nat} : afieldAddr Tryz.prog 229 (.ptr id off) 3 = some (.ptr id (off + 3)) := by simp [afieldAddr, tfield]
@[simp] theorem fieldAddr229_3c {x : AV} {off : Nat} : afieldAddr Tryz.prog 229 (.cptr x off) 3 = some (.cptr x (off + 3)) := by simp [afieldAddr, tfield]
@[simp] theorem fieldAddr229_4 {id off : Nat} : afieldAddr Tryz.prog 229 (.ptr id off) 4 = some (.ptr id (off + 4)) := by simp [afieldAddr, tfield]
@[simp] theorem fieldAddr229_4c {x : AV} {off : Nat} : afieldAddr Tryz.prog 229 (.cptr x off) 4 = some (.cptr x (off + 4)) := by simp [afieldAddr, tfield]
@[simp] theorem fieldAddr229_5 {id off : Nat} : afieldAddr Tryz.prog 229 (.ptr id off) 5 = some (.ptr id (off + 5)) := by simp [afieldAddr, tfield]
@[simp] theorem fieldAddr229_5c {x : AV} {off : Nat} : afieldAddr Tryz.prog 229 (.cptr x off) 5 = some (.cptr x (off + 5)) := by simp [afieldAddr, tfield]
@[simp] theorem fieldAddr229_6 {id off : Nat} : afieldAddr Tryz.prog 229 (.ptr id off) 6 = some (.ptr id (off + 6)) := by simp [afieldAddr, tfield]
@[simp] theorem fieldAddr229_6c {x : AV} {off : Nat} : afieldAddr Tryz.prog 229 (.cptr x off) 6 = some (.cptr x (off + 6)) := by simp [afieldAddr, tfield]
@[simp] theorem fieldAddr229_7 {id off : Nat} : afieldAddr Tryz.prog 229 (.ptr id off) 7 = some (.ptr id (off + 7)) := by simp [afieldAddr, tfield]
@[simp] theorem fieldAddr229_7c {x : AV} {off : Nat} : afieldAddr Tryz.prog 229 (.cptr x off) 7 = some (.cptr x (off + 7)) := by simp [afieldAddr, tfield]
@[simp] theorem fieldAddr229_8 {id off : Nat} : afieldAddr Tryz.prog 229 (.ptr id off) 8 = some (.ptr id (off + 8)) := by simp [afieldAddr, tfield]
@[simp] theorem fieldAddr229_8c {x : AV} {off : Nat} : afieldAddr Tryz.prog 229 (.cptr x off) 8 = some (.cptr x (off + 8)) := by simp [afieldAddr, tfield]
@[simp] theorem fieldAddr229_9 {id off : Nat} : afieldAddr Tryz.prog 229 (.ptr id off) 9 = some (.ptr id (off + 9)) := by simp [afieldAddr, tfield]
@[simp] theorem fieldAddr229_9c {x : AV} {off : Nat} : afieldAddr Tryz.prog 229 (.cptr x off) 9 = some (.cptr x (off + 9)) := by simp [afieldAddr, tfield]
@[simp] theorem fieldAddr229_10 {id off : Nat} : afieldAddr Tryz.prog 229 (.ptr id off) 10 = some (.ptr id (off + 10)) := by simp [afieldAddr, tfield]
@[simp] theorem fieldAddr229_10c {x : AV} {off : Nat} : afieldAddr Tryz.prog 229 (.cptr x off) 10 = some (.cptr x (off + 10)) := by simp [afieldAddr, tfield]
attribute [simp] Tryz.underlying230
@[simp] theorem tagg230 : tagg Tryz.prog 230 = some true := by kernel_rfl
@[simp] theorem tsize230 : tsize Tryz.prog 230 = some 11 := by kernel_rfl
@[simp] theorem tbytes230 : tbytes Tryz.prog 230 = some 48 := by kernel_rfl
@[simp] theorem tzero230 : tzero Tryz.prog 230 = some (.agg [.sc (.int .u64 0), .sc (.int .u64 0), .sc (.int .u32 0), .sc (.int .u8 0), .sc (.int .u8 0), .sc (.int .u8 0), .sc (.int .u8 0), .sc (.nilFunc), .sc (.pointer Option.none), .sc (.int .i32 0), .sc (.int .i32 0)]) := by kernel_rfl
@[simp] theorem fieldAddr230_0 {id off : Nat} : afieldAddr Tryz.prog 230 (.ptr id off) 0 = some (.ptr id (off + 0)) := by simp [afieldAddr, tfield]
@[simp] theorem fieldAddr230_0c {x : AV} {off : Nat} : afieldAddr Tryz.prog 230 (.cptr x off) 0 = some (.cptr x (off + 0)) := by simp [afieldAddr, tfield]
@[simp] theorem fieldAddr230_1 {id off : Nat} : afieldAddr Tryz.prog 230 (.ptr id off) 1 = some (.ptr id (off + 1)) := by simp [afieldAddr, tfield]
@[simp] theorem fieldAddr230_1c {x : AV} {off : Nat} : afieldAddr Tryz.prog 230 (.cptr x off) 1 = some (.cptr x (off + 1)) := by simp [afieldAddr, tfield]
@[simp] theorem fieldAddr230_2 {id off : Nat} : afieldAddr Tryz.prog 230 (.ptr id off) 2 = some (.ptr id (off + 2)) := by simp [afieldAddr, tfield]
@[simp] theorem fieldAddr230_2c {x : AV} {off : Nat} : afieldAddr Tryz.prog 230 (.cptr x off) 2 = some (.cptr x (off + 2)) := by simp [afieldAddr, tfield]
@[simp] theorem fieldAddr230_3 {id off : Nat} : afieldAddr Tryz.prog 230 (.ptr id off) 3 = some (.ptr id (off + 3)) := by simp [afieldAddr, tfield]
@[simp] theorem fieldAddr230_3c {x : AV} {off : Nat} : afieldAddr Tryz.prog 230 (.cptr x off) 3 = some (.cptr x (off + 3)) := by simp [afieldAddr, tfield]
@[simp] theorem fieldAddr230_4 {id off : Nat} : afieldAddr Tryz.prog 230 (.ptr id off) 4 = some (.ptr id (off + 4)) := by simp [afieldAddr, tfield]
@[simp] theorem fieldAddr230_4c {x : AV} {off : Nat} : afieldAddr Tryz.prog 230 (.cptr x off) 4 = some (.cptr x (off + 4)) := by simp [afieldAddr, tfield]
@[simp] theorem fieldAddr230_5 {id off : Nat} : afieldAddr Tryz.prog 230 (.ptr id off) 5 = some (.ptr id (off + 5)) := by simp [afieldAddr, tfield]
@[simp] theorem fieldAddr230_5c {x : AV} {off : Nat} : afieldAddr Tryz.prog 230 (.cptr x off) 5 = some (.cptr x (off + 5)) := by simp [afieldAddr, tfield]
@[simp] theorem fieldAddr230_6 {id off : Nat} : afieldAddr Tryz.prog 230 (.ptr id off) 6 = some (.ptr id (off + 6)) := by simp [afieldAddr, tfield]
@[simp] theorem fieldAddr230_6c {x : AV} {off : Nat} : afieldAddr Tryz.prog 230 (.cptr x off) 6 = some (.cptr x (off + 6)) := by simp [afieldAddr, tfield]
@[simp] theorem fieldAddr230_7 {id off : Nat} : afieldAddr Tryz.prog 230 (.ptr id off) 7 = some (.ptr id (off + 7)) := by simp [afieldAddr, tfield]
@[simp] theorem fieldAddr230_7c {x : AV} {off : Nat} : afieldAddr Tryz.prog 230 (.cptr x off) 7 = some (.cptr x (off + 7)) := by simp [afieldAddr, tfield]
@[simp] theorem fieldAddr230_8 {id off : Nat} : afieldAddr Tryz.prog 230 (.ptr id off) 8 = some (.ptr id (off + 8)) := by simp [afieldAddr, tfield]
@[simp] theorem fieldAddr230_8c {x : AV} {off : Nat} : afieldAddr Tryz.prog 230 (.cptr x off) 8 = some (.cptr x (off + 8)) := by simp [afieldAddr, tfield]
@[simp] theorem fieldAddr230_9 {id off : Nat} : afieldAddr Tryz.prog 230 (.ptr id off) 9 = some (.ptr id (off + 9)) := by simp [afieldAddr, tfield]
@[simp] theorem fieldAddr230_9c {x : AV} {off : Nat} : afieldAddr Tryz.prog 230 (.cptr x off) 9 = some (.cptr x (off + 9)) := by simp [afieldAddr, tfield]
@[simp] theorem fieldAddr230_10 {id off : Nat} : afieldAddr Tryz.prog 230 (.ptr id off) 10 = some (.ptr id (off + 10)) := by simp [afieldAddr, tfield]
@[simp] theorem fieldAddr230_10c {x : AV} {off : Nat} : afieldAddr Tryz.prog 230 (.cptr x off) 10 = some (.cptr x (off + 10)) := by simp [afieldAddr, tfield]
attribute [simp] Tryz.underlying231
@[simp] theorem tagg231 : tagg Tryz.prog 231 = some false := by kernel_rfl
@[simp] theorem tsize231 : tsize Tryz.prog 231 = some 1 := by kernel_rfl
@[simp] theorem tbytes231 : tbytes Tryz.prog 231 = some 8 := by kernel_rfl
@[simp] theorem tzero231 : tzero Tryz.prog 231 = some (.sc (.nilFunc)) := by kernel_rfl
theorem el43 : ElemOf Tryz.prog 43 6 true := ⟨⟨56, 104, .agg zeroCells, telem43, tsize56, tbytes56, tzero56, tagg56, by kernel_rfl, by decide, by kernel_rfl⟩, by decide⟩
theorem el54 : ElemOf Tryz.prog 54 1 false := ⟨⟨3, 8, .sc (.int .i64 0), telem54, tsize3, tbytes3, tzero3, tagg3, by kernel_rfl, by decide, by kernel_rfl⟩, by decide⟩
theorem el66 : ElemOf Tryz.prog 66 2 true := ⟨⟨51, 16, .agg [.sc (.int .i64 0), .sc (.int .i64 0)], telem66, tsize51, tbytes51, tzero51, tagg51, by kernel_rfl, by decide, by kernel_rfl⟩, by decide⟩
theorem el74 : ElemOf Tryz.prog 74 4 true := ⟨⟨78, 64, .agg [.sc (.int .i64 0), .sc (.int .i64 0), .emp 0, .emp 0], telem74, tsize78, tbytes78, tzero78, tagg78, by kernel_rfl, by decide, by kernel_rfl⟩, by decide⟩
theorem el76 : ElemOf Tryz.prog 76 1 false := ⟨⟨5, 1, .sc (.int .u8 0), telem76, tsize5, tbytes5, tzero5, tagg5, by kernel_rfl, by decide, by kernel_rfl⟩, by decide⟩
theorem el85 : ElemOf Tryz.prog 85 1 false := ⟨⟨9, 16, .sc (.string ⟨⟨[]⟩⟩), telem85, tsize9, tbytes9, tzero9, tagg9, by kernel_rfl, by decide, by kernel_rfl⟩, by decide⟩
theorem el175 : ElemOf Tryz.prog 175 1 false := ⟨⟨66, 24, .emp 0, telem175, tsize66, tbytes66, tzero66, tagg66, by kernel_rfl, by decide, by kernel_rfl⟩, by decide⟩
end Go.Proofs.YtnhcmcfgemoehaaGreat

/- What is kept as it is; the functions told by hand; the types; a datum. -/
set_option linter.unusedSimpArgs false
set_option linter.unusedVariables false
set_option linter.unusedSectionVars false
namespace Go.Proofs.YtnhcmcfgemoehaaGreat
set_option maxRecDepth 4000
open Go.V
/-- The functions that leave something in memory. -/
def leaves : List Nat := [73, 104, 143]
noncomputable def cf : Cfg := ⟨fun _ => false, fun _ => false, fun f => none, fun f => if leaves.contains f then 0 else 1⟩
/-- An int. -/
abbrev int (n : Int) : AV := .sc (.int .i64 n)
inductive Dat where
  | mk (K N : Int) (S : List UInt8) (M : List Int) (L T : List Dat)
mutual
def enc : Dat → AV
  | .mk K N S M L T => .agg [int K, int N, .sc (.string ⟨⟨S⟩⟩), .lst (M.map int), .lst (encs L), .lst (encs T)]
def encs : List Dat → List AV
  | [] => []
  | d :: l => enc d :: encs l
end
theorem encs_map : ∀ l, encs l = l.map enc
  | [] => by simp [encs]
  | d :: l => by simp [encs, encs_map l]
@[simp] theorem encs_length (l : List Dat) : (encs l).length = l.length := by simp [encs_map]
theorem encs_get (l : List Dat) (i : Nat) : (encs l)[i]? = (l[i]?).map enc := by simp [encs_map]
@[simp] theorem fzv_enc (m : Mem) (d : Dat) : fzv m (enc d) = (enc d, m) := by
  cases d
  simp [enc]
@[simp] theorem enc_okc (d : Dat) : (enc d).okc = true := by cases d; simp [enc]
@[simp] theorem enc_cells_length (d : Dat) : (enc d).cells.length = 6 := by cases d; simp [enc]
@[simp] theorem enc_take (d : Dat) : List.take 6 (enc d).cells = (enc d).cells := List.take_of_length_le (by simp)
@[simp] theorem enc_agg (d : Dat) : AV.agg (enc d).cells = enc d := by cases d; simp [enc]
@[simp] theorem okAll_ints (l : List Int) : okAll 1 (l.map int) = true := by
  induction l with
  | nil => rfl
  | cons x l ih => simp [okAll_cons, ih]
@[simp] theorem okAll_encs (l : List Dat) : okAll 6 (encs l) = true := by
  induction l with
  | nil => rfl
  | cons x l ih => simp [encs, okAll_cons, ih]
@[simp] theorem fzvs_ints (m : Mem) (l : List Int) : fzvs m (l.map int) = (l.map int, m) := by
  induction l with
  | nil => rfl
  | cons x l ih => simp [fzvs, ih]
@[simp] theorem fzvs_encs (m : Mem) (l : List Dat) : fzvs m (encs l) = (encs l, m) := by
  induction l with
  | nil => rfl
  | cons x l ih => simp [encs, fzvs, ih]
theorem flat_ints (l : List Int) : flat (l.map int) = l.map int := by
  induction l with
  | nil => rfl
  | cons x l ih => simp [flat_cons, ih]
@[simp] theorem bels_ints (n : Nat) (l : List Int) : AV.bels n (l.map int) = true := by
  induction l with
  | nil => rfl
  | cons x l ih => simp [AV.bels, AV.bel, ih]
mutual
@[simp] theorem bel_enc (n : Nat) : ∀ d : Dat, (enc d).bel n = true
  | .mk K N S M L T => by simp [enc, AV.bel, AV.bels, bels_encs n L, bels_encs n T]
@[simp] theorem bels_encs (n : Nat) : ∀ l : List Dat, AV.bels n (encs l) = true
  | [] => by simp [encs, AV.bels]
  | d :: l => by simp [encs, AV.bels, bel_enc n d, bels_encs n l]
end
@[simp] theorem fz1_ints {m : Mem} {id v : Nat} {f : Bool} {cap : Option Nat} {l : List Int} {n : Nat} (hn : n = l.length) (hg : m.get id = some (.cells (l.map int) f v)) : fz1 m (.sl id 0 n 1 false cap) = (.lst (l.map int), m.mark id (l.map int) v) := by
  subst hn
  have := fz1_row (m := m) (id := id) (k := 1) (ag := false) (cap := cap) (ys := l.map int) (v := v) (f := f) rfl (by rw [flat_ints]; exact hg) (fun y hy => by obtain ⟨x, _, rfl⟩ := List.mem_map.1 hy; simp) (okAll_ints l)
  rw [flat_ints] at this
  simpa using this
@[simp] theorem fz1_encs {m : Mem} {id v : Nat} {f : Bool} {cap : Option Nat} {l : List Dat} {n : Nat} (hn : n = l.length) (hg : m.get id = some (.cells (flat (encs l)) f v)) : fz1 m (.sl id 0 n 6 true cap) = (.lst (encs l), m.mark id (flat (encs l)) v) := by
  subst hn
  have := fz1_row (m := m) (id := id) (k := 6) (ag := true) (cap := cap) (ys := encs l) (v := v) (f := f) rfl hg (fun y hy => by rw [encs_map] at hy; obtain ⟨x, _, rfl⟩ := List.mem_map.1 hy; simp) (okAll_encs l)
  simpa using this
end Go.Proofs.YtnhcmcfgemoehaaGreat

/- A datum's size, and what fits; memory that stays. -/
set_option linter.unusedSimpArgs false
set_option linter.unusedVariables false
set_option linter.unusedSectionVars false
namespace Go.Proofs.YtnhcmcfgemoehaaGreat
set_option maxRecDepth 4000
open Go.V
/-- A datum as it may be read: nothing is too long. -/
structure Fits (K N : Int) (S : List UInt8) (M : List Int) (L T : List Dat) : Prop where
  n : -9223372036854775808 ≤ N ∧ N ≤ 9223372036854775807
  s : S.length < 2 ^ 21
  m : M.length < 2 ^ 21
  l : L.length < 2 ^ 21
  t : T.length < 2 ^ 21
mutual
def Dat.size : Dat → Nat
  | .mk _ _ _ _ L T => 1 + (sizes L + sizes T)
def sizes : List Dat → Nat
  | [] => 0
  | d :: l => d.size + sizes l
end
theorem size_mem : ∀ {l : List Dat} {d : Dat}, d ∈ l → d.size ≤ sizes l
  | x :: l, d, h => by
    rw [sizes]
    rcases List.mem_cons.1 h with rfl | h
    · omega
    · have := size_mem h; omega
mutual
/-- Nothing in it is too long. -/
def Dat.fits : Dat → Prop
  | .mk K N S M L T => Fits K N S M L T ∧ fitss L ∧ fitss T
def fitss : List Dat → Prop
  | [] => True
  | d :: l => d.fits ∧ fitss l
end
theorem fits_mem : ∀ {l : List Dat}, fitss l → ∀ {d : Dat}, d ∈ l → d.fits
  | x :: l, h, d, hd => by
    rw [fitss] at h
    rcases List.mem_cons.1 hd with rfl | hd
    · exact h.1
    · exact fits_mem h.2 hd
theorem alone_fits {K N : Int} {S : List UInt8} {M : List Int} {L T : List Dat} (h : (Dat.mk K N S M L T).fits) : Fits K N S M L T := by rw [Dat.fits] at h; exact h.1
/-- An object's cells. -/
def has (m : Mem) (id : Nat) (cs : List AV) : Prop := id < m.next ∧ ∃ v, m.get id = some (.cells cs false v)
/-- What stays but for two objects. -/
structure KpX (X : Nat → Prop) (m m' : Mem) : Prop where
  next : m.next ≤ m'.next
  get : ∀ id, id < m.next → ¬ X id → m'.get id = m.get id
  x : XK m m'
theorem KpX.refl (X : Nat → Prop) (m : Mem) : KpX X m m := ⟨Nat.le_refl _, fun _ _ _ => rfl, .refl m⟩
theorem KpX.trans {X : Nat → Prop} {a b c : Mem} (h : KpX X a b) (k : KpX X b c) : KpX X a c := ⟨Nat.le_trans h.next k.next, fun id hi hx => (k.get id (Nat.lt_of_lt_of_le hi h.next) hx).trans (h.get id hi hx), h.x.trans h.next k.x⟩
theorem KpX.of {X : Nat → Prop} {a b : Mem} (h : Kp a b) : KpX X a b := ⟨h.next, fun id hi _ => h.get id hi, h.x⟩
theorem KpX.set {X : Nat → Prop} {a b : Mem} (h : KpX X a b) {id : Nat} (hx : X id) (cs : List AV) : KpX X a (b.set id cs) := ⟨h.next, fun j hj hn => by rw [Mem.get_set, if_neg (by rintro rfl; exact hn hx)]; exact h.get j hj hn, h.x.same rfl rfl⟩
theorem KpX.setn {X : Nat → Prop} {a b : Mem} (h : KpX X a b) {id : Nat} (hx : a.next ≤ id) (cs : List AV) : KpX X a (b.set id cs) := ⟨h.next, fun j hj hn => by rw [Mem.get_set, if_neg (by omega)]; exact h.get j hj hn, h.x.same rfl rfl⟩
theorem KpX.new {X : Nat → Prop} {a b : Mem} (h : KpX X a b) (cs : List AV) (f : Bool) : KpX X a (b.new cs f) := h.trans (.of (.new _ _ _))
theorem has.kept {X : Nat → Prop} {m m' : Mem} {id : Nat} {cs : List AV} (h : has m id cs) (k : KpX X m m') (hx : ¬ X id) : has m' id cs := ⟨Nat.lt_of_lt_of_le h.1 k.next, by rw [k.get id h.1 hx]; exact h.2⟩
theorem has.kp {m m' : Mem} {id : Nat} {cs : List AV} (h : has m id cs) (k : Kp m m') : has m' id cs := ⟨Nat.lt_of_lt_of_le h.1 k.next, by rw [k.get id h.1]; exact h.2⟩
theorem KpX.kp {X : Nat → Prop} {a b c : Mem} (h : KpX X b c) (k : Kp a b) (hx : ∀ id, id < a.next → ¬ X id) : Kp a c := ⟨Nat.le_trans k.next h.next, fun id hi => (h.get id (Nat.lt_of_lt_of_le hi k.next) (hx id hi)).trans (k.get id hi), k.x.trans k.next h.x⟩
end Go.Proofs.YtnhcmcfgemoehaaGreat

/- Texts that are symbols'. -/
set_option linter.unusedSimpArgs false
set_option linter.unusedVariables false
set_option linter.unusedSectionVars false
namespace Go.Proofs.YtnhcmcfgemoehaaGreat
set_option maxRecDepth 4000
open Go.V
attribute [local simp] Tryz.underlying9 Tryz.underlying5
theorem g66 (a : Int) : Gives Tryz.prog cf 74 [.sc (.int .i64 a)] (.sc (.bool (decide (-1152921504606846976 ≤ a) && decide (a ≤ 1152921504606846975)))) := by
  refine gives_go Tryz.func74 rfl rfl rfl (by simp [Tryz.f74]) (by simp [Tryz.f74]) fun m Q hQ => ?_
  simp only [Tryz.f74, show cf.keepRes 74 = false from rfl] at hQ ⊢
  simp
  by_cases h : -1152921504606846976 ≤ a
  all_goals
    simp [h]
    refine hQ _ _ _ (leave_sc (.inr rfl) at_set_eq ⟨by simp [h], .refl m⟩)
theorem g73 (a : Int) : Gives Tryz.prog cf 81 [.sc (.int .i64 a)] (.sc (.bool (decide (-1152921504606846976 ≤ a) && decide (a ≤ 1152921504606846975)))) := by
  refine gives_go Tryz.func81 rfl rfl rfl (by simp [Tryz.f81]) (by simp [Tryz.f81]) fun m Q hQ => ?_
  simp only [Tryz.f81, show cf.keepRes 81 = false from rfl] at hQ ⊢
  simp
  by_cases h : -1152921504606846976 ≤ a
  all_goals
    simp [h]
    refine hQ _ _ _ (leave_sc (.inr rfl) at_set_eq ⟨by simp [h], .refl m⟩)
theorem u8_inj {a b : UInt8} (h : (a.toNat : Int) = b.toNat) : a = b := UInt8.toNat_inj.1 (by omega)
/-- isIn -/
theorem g42 (c : UInt8) (l : List UInt8) (hl : l.length < 2 ^ 62) : Gives Tryz.prog cf 153 [.sc (.int .u8 c.toNat), .sc (.string ⟨⟨l⟩⟩)] (.sc (.bool (decide (c ∈ l)))) := by
  refine gives_go Tryz.func153 rfl rfl rfl (by simp [Tryz.f153]) (by simp [Tryz.f153]) fun m Q hQ => ?_
  simp only [Tryz.f153, show cf.keepRes 153 = false from rfl] at hQ ⊢
  simp
  refine go_loop (fun n s m' => m' = m ∧ ∃ i : Nat, n = l.length - i ∧ s.at 0 = .sc (.int .u8 c.toNat) ∧ s.at 1 = .sc (.string ⟨⟨l⟩⟩) ∧ s.at 5 = .sc (.int .i64 i) ∧ i ≤ l.length ∧ ∀ j, j < i → l[j]? ≠ some c) l.length ⟨rfl, 0, by simp⟩ ?_
  rintro n s _ ⟨rfl, i, rfl, h0, h1, h5, hi, hno⟩ Q' hn he
  simp [h0, h1, h5]
  refine goB_split (fun h => ?_) fun h => ?_
  · have hlt : i < l.length := by simpa using h
    have hb := List.getElem?_eq_getElem hlt
    simp [h0, h1, h5, aindex_str Tryz.underlying9 hb]
    refine goB_split (fun h => ?_) fun h => ?_
    · simp
      refine he _ _ _ (by simp) ?_
      simp
      refine hQ _ _ _ (leave_sc (.inr rfl) at_set_eq ⟨?_, .refl _⟩)
      have : l[i] = c := u8_inj (by simpa using h)
      have : c ∈ l := this ▸ List.getElem_mem hlt
      simp [this]
    · simp [h5]
      have hne : l[i] ≠ c := by
        intro e
        rw [e] at h
        simp at h
      refine hn (l.length - (i + 1)) _ _ (by omega) ⟨rfl, i + 1, rfl, ?_⟩
      simp [h0, h1]
      refine ⟨?_, hlt, fun j hj => ?_⟩
      · exact IntWalk.i64_in _ (by omega)
      · rcases Nat.lt_or_ge j i with h2 | h2
        · exact hno j h2
        · have : j = i := by omega
          subst this
          rw [hb]
          simpa using hne
  · simp
    refine he _ _ _ (by simp) ?_
    simp
    refine hQ _ _ _ (leave_sc (.inr rfl) at_set_eq ⟨?_, .refl _⟩)
    have hle : i = l.length := by
      have : ¬ (i < l.length) := by simpa using h
      omega
    have : ¬ c ∈ l := by
      intro hm
      obtain ⟨j, hj, e⟩ := List.getElem_of_mem hm
      exact hno j (by omega) (by rw [List.getElem?_eq_getElem hj, e])
    simp [this]
def lets : List UInt8 := [33, 36, 37, 38, 42, 47, 58, 60, 61, 62, 63, 94, 95, 126]
def digs : List UInt8 := [48, 49, 50, 51, 52, 53, 54, 55, 56, 57, 43, 45, 46, 64]
def letter (c : UInt8) : Bool := (decide (97 ≤ (c.toNat : Int)) && decide ((c.toNat : Int) ≤ 122)) || (decide (65 ≤ (c.toNat : Int)) && decide ((c.toNat : Int) ≤ 90)) || decide (c ∈ lets)
theorem g41 (c : UInt8) : Gives Tryz.prog cf 152 [.sc (.int .u8 c.toNat)] (.sc (.bool (letter c))) := by
  refine gives_go Tryz.func152 rfl rfl rfl (by simp [Tryz.f152]) (by simp [Tryz.f152]) fun m Q hQ => ?_
  simp only [Tryz.f152, show cf.keepRes 152 = false from rfl] at hQ ⊢
  simp
  by_cases h1 : (97 : Int) ≤ c.toNat <;> by_cases h2 : (c.toNat : Int) ≤ 122 <;> by_cases h3 : (65 : Int) ≤ c.toNat <;> by_cases h4 : (c.toNat : Int) ≤ 90
  all_goals
    simp [h1, h2, h3, h4]
    first
      | exact hQ _ _ _ (leave_sc (.inr rfl) at_set_eq ⟨by simp [letter, h1, h2, h3, h4], .refl m⟩)
      | refine goH_gives (g42 c lets (by decide)) fun m' hm => ?_
        simp
        exact hQ _ _ _ (leave_sc (.inr rfl) at_set_eq ⟨by simp [letter, h1, h2, h3, h4], hm⟩)
/-- May that byte stand behind the first? -/
def later (c : UInt8) : Bool := letter c || decide (c ∈ digs)
/-- May a text be a symbol's? -/
def Sym (l : List UInt8) : Bool := decide (l = [43]) || decide (l = [45]) || decide (l = [46, 46, 46]) || (decide (l.length ≤ 32) && match l with | [] => false | c :: r => letter c && r.all later)
set_option maxHeartbeats 1000000 in
theorem g13 (l : List UInt8) (hl : l.length < 2 ^ 62) : Gives Tryz.prog cf 100 [.sc (.string ⟨⟨l⟩⟩)] (.sc (.bool (Sym l))) := by
  refine gives_go Tryz.func100 rfl rfl rfl (by simp [Tryz.f100]) (by simp [Tryz.f100]) fun m Q hQ => ?_
  simp only [Tryz.f100, show cf.keepRes 100 = false from rfl] at hQ ⊢
  simp
  by_cases e1 : l = [43]
  · simp [e1]
    exact hQ _ _ _ (leave_sc (.inr rfl) at_set_eq ⟨by simp [Sym, e1], .refl m⟩)
  by_cases e2 : l = [45]
  · simp [e1, e2]
    exact hQ _ _ _ (leave_sc (.inr rfl) at_set_eq ⟨by simp [Sym, e2], .refl m⟩)
  by_cases e3 : l = [46, 46, 46]
  · simp [e1, e2, e3]
    exact hQ _ _ _ (leave_sc (.inr rfl) at_set_eq ⟨by simp [Sym, e3], .refl m⟩)
  simp [e1, e2, e3]
  cases l with
  | nil =>
    simp
    exact hQ _ _ _ (leave_sc (.inr rfl) at_set_eq ⟨by simp [Sym], .refl m⟩)
  | cons c r =>
    have hz : ¬ ((r.length : Int) + 1 < 1) := by omega
    by_cases e4 : (32 : Int) < r.length + 1
    · simp [hz, e4]
      exact hQ _ _ _ (leave_sc (.inr rfl) at_set_eq ⟨by simp [Sym, e1, e2, e3]; omega, .refl m⟩)
    · simp [hz, e4]
      refine goH_gives (g41 c) fun m1 k1 => ?_
      cases e5 : letter c with
      | false =>
        simp
        exact hQ _ _ _ (leave_sc (.inr rfl) at_set_eq ⟨by simp [Sym, e1, e2, e3, e5], k1⟩)
      | true =>
        simp
        refine go_loop (fun n s m' => Kp m m' ∧ ∃ i : Nat, n = (c :: r).length - i ∧ s.at 0 = .sc (.string ⟨⟨c :: r⟩⟩) ∧ s.at 3 = .sc (.int .i64 i) ∧ 1 ≤ i ∧ i ≤ (c :: r).length ∧ ∀ j b, 1 ≤ j → j < i → (c :: r)[j]? = some b → later b = true) ((c :: r).length - 1) ⟨k1, 1, by simp; omega⟩ ?_
        rintro n s m2 ⟨k2, i, rfl, h0, h3, hi1, hi, hno⟩ Q' hn he
        simp [h0, h3]
        refine goB_split (fun h => ?_) fun h => ?_
        · have hlt : i < (c :: r).length := by simp at h ⊢; omega
          obtain ⟨b, hb⟩ : ∃ b, (c :: r)[i]? = some b := ⟨_, List.getElem?_eq_getElem hlt⟩
          simp [h0, h3, aindex_str Tryz.underlying9 hb]
          refine goH_gives (g41 b) fun m3 k3 => ?_
          have fin : ∀ m4 s4, Kp m m4 → later b = true → s4.at 0 = .sc (.string ⟨⟨c :: r⟩⟩) → s4.at 3 = .sc (.int .i64 (IntKind.i64.wrap (i + 1))) → Q' .normal s4 m4 := by
            intro m4 s4 k4 hb2 h0' h3'
            refine hn ((c :: r).length - (i + 1)) _ _ (by omega) ⟨k4, i + 1, rfl, h0', ?_, by omega, hlt, fun j b' hj1 hj hb' => ?_⟩
            · rw [h3', IntWalk.i64_in _ (by omega)]; rfl
            · rcases Nat.lt_or_ge j i with h2 | h2
              · exact hno j b' hj1 h2 hb'
              · have : j = i := by omega
                subst this
                rw [hb] at hb'
                cases hb'
                exact hb2
          cases e6 : letter b with
          | true =>
            simp [h3]
            exact fin _ _ (k2.trans k3) (by simp [later, e6]) (by simp [h0]) (by simp)
          | false =>
            simp [h0, h3, aindex_str Tryz.underlying9 hb]
            refine goH_gives (g42 b digs (by decide)) fun m4 k4 => ?_
            by_cases e7 : b ∈ digs
            · simp [e7, h3]
              exact fin _ _ ((k2.trans k3).trans k4) (by simp [later, e7]) (by simp [h0]) (by simp)
            · simp [e7]
              refine he _ _ _ (by simp) ?_
              simp
              refine hQ _ _ _ (leave_sc (.inr rfl) at_set_eq ⟨?_, (k2.trans k3).trans k4⟩)
              have hmem : b ∈ r := by
                obtain ⟨i', rfl⟩ : ∃ i', i = i' + 1 := ⟨i - 1, by omega⟩
                rw [List.getElem?_cons_succ] at hb
                exact List.mem_of_getElem? hb
              have : r.all later = false := by
                rw [List.all_eq_false]
                exact ⟨b, hmem, by simp [later, e6, e7]⟩
              simp [Sym, e1, e2, e3, this]
        · simp
          refine he _ _ _ (by simp) ?_
          simp
          refine hQ _ _ _ (leave_sc (.inr rfl) at_set_eq ⟨?_, k2⟩)
          have hle : i = (c :: r).length := by simp at h hi ⊢; omega
          have : r.all later = true := by
            rw [List.all_eq_true]
            intro b hb
            obtain ⟨j, hj, e⟩ := List.getElem_of_mem hb
            exact hno (j + 1) b (by omega) (by simp at hle ⊢; omega) (by rw [List.getElem?_cons_succ, List.getElem?_eq_getElem hj, e])
          simp [Sym, this, e5]
          omega
theorem find_idx (l : List UInt8) (c : UInt8) : ∃ r : Int, (match (List.range (⟨⟨l⟩⟩ : ByteArray).size).find? (fun i => (⟨⟨l⟩⟩ : ByteArray)[i]! == c) with | some i => goInt i | none => goInt (-1)) = .int .i64 r ∧ (r < 0 ↔ c ∉ l) := by
  have hg : ∀ i, i < l.length → (⟨⟨l⟩⟩ : ByteArray)[i]! = l[i]! := fun i hi => by
    rw [getElem!_pos (⟨⟨l⟩⟩ : ByteArray) i (by simpa [ByteArray.size] using hi), getElem!_pos l i hi]
    rfl
  have hs : (⟨⟨l⟩⟩ : ByteArray).size = l.length := by simp [ByteArray.size]
  rw [hs]
  cases hf : (List.range l.length).find? (fun i => (⟨⟨l⟩⟩ : ByteArray)[i]! == c) with
  | some i =>
    refine ⟨i, rfl, ?_⟩
    have h1 := List.find?_some hf
    have h2 := List.mem_range.1 (List.mem_of_find?_eq_some hf)
    rw [hg i h2, getElem!_pos l i h2] at h1
    have : c ∈ l := by rw [← (by simpa using h1 : l[i] = c)]; exact List.getElem_mem h2
    simp [this]
  | none =>
    refine ⟨-1, rfl, ?_⟩
    rw [List.find?_eq_none] at hf
    have : c ∉ l := by
      intro hm
      obtain ⟨j, hj, e⟩ := List.getElem_of_mem hm
      have := hf j (List.mem_range.2 hj)
      rw [hg j hj, getElem!_pos l j hj] at this
      simp [e] at this
    simp [this]
theorem ext65 : Extern.findNext Tryz.f183 = none ∧ Extern.find Tryz.f183 = some Extern.BytealgIndexByte.indexByte := by
  constructor <;> kernel_rfl
theorem g65 (l : List UInt8) (c : UInt8) : ∃ r : Int, (r < 0 ↔ c ∉ l) ∧ Gives Tryz.prog cf 183 [.sc (.string ⟨⟨l⟩⟩), .sc (.int .u8 c.toNat)] (.sc (.int .i64 r)) := by
  obtain ⟨r, h1, h2⟩ := find_idx l c
  refine ⟨r, h2, gives_extern Tryz.func183 rfl rfl (vs := [.string ⟨⟨l⟩⟩, .int .u8 c.toNat]) rfl (r := .int .i64 r) ?_⟩
  rw [pureRun_extern Tryz.func183 rfl rfl ext65.1 ext65.2]
  have h3 : pureRun Tryz.prog (Extern.BytealgIndexByte.indexByte [.string ⟨⟨l⟩⟩, .int .u8 c.toNat].toArray) = some (.int .i64 r) := by
    show pureRun Tryz.prog (do let b ← Extern.Bytes.bytesOf (.string ⟨⟨l⟩⟩); let c ← Extern.Bytes.asByte (.int .u8 c.toNat); match (List.range b.size).find? (fun i => b[i]! == c) with | some i => pure (goInt i) | none => pure (goInt (-1))) = _
    have h4 : ((c.toNat : Int).toNat).toUInt8 = c := by simp
    rw [pureRun_bind]
    show pureRun Tryz.prog (do let c ← Extern.Bytes.asByte (.int .u8 c.toNat); match (List.range (⟨⟨l⟩⟩ : ByteArray).size).find? (fun i => (⟨⟨l⟩⟩ : ByteArray)[i]! == c) with | some i => pure (goInt i) | none => pure (goInt (-1))) = _
    rw [pureRun_bind]
    show pureRun Tryz.prog (match (List.range (⟨⟨l⟩⟩ : ByteArray).size).find? (fun i => (⟨⟨l⟩⟩ : ByteArray)[i]! == ((c.toNat : Int).toNat).toUInt8) with | some i => pure (goInt i) | none => pure (goInt (-1))) = _
    rw [h4, ← h1]
    split <;> rfl
  rw [h3]
  rfl
theorem g57 (l : List UInt8) (c : UInt8) : ∃ r : Int, (r < 0 ↔ c ∉ l) ∧ Gives Tryz.prog cf 178 [.sc (.string ⟨⟨l⟩⟩), .sc (.int .u8 c.toNat)] (.sc (.int .i64 r)) := by
  obtain ⟨r, h, hg⟩ := g65 l c
  refine ⟨r, h, ?_⟩
  refine gives_go Tryz.func178 rfl rfl rfl (by simp [Tryz.f178]) (by simp [Tryz.f178]) fun m Q hQ => ?_
  simp only [Tryz.f178, show cf.keepRes 178 = false from rfl] at hQ ⊢
  simp
  refine goH_gives hg fun m1 k1 => ?_
  simp
  exact hQ _ _ _ (leave_sc (.inr rfl) at_set_eq ⟨rfl, k1⟩)
theorem g40 (l : List UInt8) (c : UInt8) : ∃ r : Int, (r < 0 ↔ c ∉ l) ∧ Gives Tryz.prog cf 160 [.sc (.string ⟨⟨l⟩⟩), .sc (.int .u8 c.toNat)] (.sc (.int .i64 r)) := by
  obtain ⟨r, h, hg⟩ := g57 l c
  refine ⟨r, h, ?_⟩
  refine gives_go Tryz.func160 rfl rfl rfl (by simp [Tryz.f160]) (by simp [Tryz.f160]) fun m Q hQ => ?_
  simp only [Tryz.f160, show cf.keepRes 160 = false from rfl] at hQ ⊢
  simp
  refine goH_gives hg fun m1 k1 => ?_
  simp
  exact hQ _ _ _ (leave_sc (.inr rfl) at_set_eq ⟨rfl, k1⟩)
def begins : List UInt8 := [97, 98, 99, 100, 101, 102, 103, 104, 105, 106, 107, 108, 109, 110, 111, 112, 113, 114, 115, 116, 117, 118, 119, 120, 121, 122, 65, 66, 67, 68, 69, 70, 71, 72, 73, 74, 75, 76, 77, 78, 79, 80, 81, 82, 83, 84, 85, 86, 87, 88, 89, 90, 33, 36, 37, 38, 42, 47, 58, 60, 61, 62, 63, 94, 95, 126]
def goes : List UInt8 := [97, 98, 99, 100, 101, 102, 103, 104, 105, 106, 107, 108, 109, 110, 111, 112, 113, 114, 115, 116, 117, 118, 119, 120, 121, 122, 65, 66, 67, 68, 69, 70, 71, 72, 73, 74, 75, 76, 77, 78, 79, 80, 81, 82, 83, 84, 85, 86, 87, 88, 89, 90, 33, 36, 37, 38, 42, 47, 58, 60, 61, 62, 63, 94, 95, 126, 48, 49, 50, 51, 52, 53, 54, 55, 56, 57, 43, 45, 46, 64]
theorem letter_begins (c : UInt8) : letter c = decide (c ∈ begins) := by
  have h : ∀ n : Fin 256, letter (UInt8.ofNat n.val) = decide (UInt8.ofNat n.val ∈ begins) := by decide +kernel
  have := h ⟨c.toNat, c.toNat_lt⟩
  simpa using this
theorem later_goes (c : UInt8) : later c = decide (c ∈ goes) := by
  have h : ∀ n : Fin 256, later (UInt8.ofNat n.val) = decide (UInt8.ofNat n.val ∈ goes) := by decide +kernel
  have := h ⟨c.toNat, c.toNat_lt⟩
  simpa using this
theorem later_of_letter {c : UInt8} (h : letter c = true) : later c = true := by simp [later, h]
set_option maxHeartbeats 1000000 in
theorem g12 (l : List UInt8) (hl : l.length < 2 ^ 62) : Gives Tryz.prog cf 106 [.sc (.string ⟨⟨l⟩⟩)] (.sc (.bool (Sym l))) := by
  refine gives_go Tryz.func106 rfl rfl rfl (by simp [Tryz.f106]) (by simp [Tryz.f106]) fun m Q hQ => ?_
  simp only [Tryz.f106, show cf.keepRes 106 = false from rfl] at hQ ⊢
  simp
  by_cases e1 : l = [43]
  · simp [e1]
    exact hQ _ _ _ (leave_sc (.inr rfl) at_set_eq ⟨by simp [Sym, e1], .refl m⟩)
  by_cases e2 : l = [45]
  · simp [e1, e2]
    exact hQ _ _ _ (leave_sc (.inr rfl) at_set_eq ⟨by simp [Sym, e2], .refl m⟩)
  by_cases e3 : l = [46, 46, 46]
  · simp [e1, e2, e3]
    exact hQ _ _ _ (leave_sc (.inr rfl) at_set_eq ⟨by simp [Sym, e3], .refl m⟩)
  simp [e1, e2, e3]
  cases l with
  | nil =>
    simp
    exact hQ _ _ _ (leave_sc (.inr rfl) at_set_eq ⟨by simp [Sym], .refl m⟩)
  | cons c r =>
    simp
    by_cases e4 : (32 : Int) < r.length + 1
    · simp [e4]
      exact hQ _ _ _ (leave_sc (.inr rfl) at_set_eq ⟨by simp [Sym, e1, e2, e3]; omega, .refl m⟩)
    · simp [e4]
      obtain ⟨q, hq, hg⟩ := g40 begins c
      refine goH_gives hg fun m1 k1 => ?_
      by_cases e5 : q < 0
      · simp [e5]
        have : letter c = false := by rw [letter_begins]; simpa using hq.1 e5
        exact hQ _ _ _ (leave_sc (.inr rfl) at_set_eq ⟨by simp [Sym, e1, e2, e3, this], k1⟩)
      · have hc : letter c = true := by
          rw [letter_begins]
          simp only [decide_eq_true_eq]
          exact Classical.byContradiction fun h => e5 (hq.2 h)
        simp [e5]
        refine go_loop (fun n s m' => Kp m m' ∧ ∃ i : Nat, n = (c :: r).length - i ∧ s.at 0 = .sc (.string ⟨⟨c :: r⟩⟩) ∧ s.at 21 = .sc (.int .i64 ((c :: r).length : Nat)) ∧ s.at 22 = .sc (.int .i64 i) ∧ i ≤ (c :: r).length ∧ ∀ j b, j < i → (c :: r)[j]? = some b → later b = true) ((c :: r).length) ⟨k1, 0, by simp⟩ ?_
        rintro n s m2 ⟨k2, i, rfl, h0, h21, h22, hi, hno⟩ Q' hn he
        simp [h0, h21, h22]
        refine goB_split (fun h => ?_) fun h => ?_
        · have hlt : i < (c :: r).length := by simp at h ⊢; omega
          obtain ⟨b, hb⟩ : ∃ b, (c :: r)[i]? = some b := ⟨_, List.getElem?_eq_getElem hlt⟩
          obtain ⟨q2, hq2, hg2⟩ := g40 goes b
          simp [h0, h22, aindex_str Tryz.underlying9 hb]
          refine goH_gives hg2 fun m3 k3 => ?_
          by_cases e6 : q2 < 0
          · simp [e6]
            refine he _ _ _ (by simp) ?_
            simp
            refine hQ _ _ _ (leave_sc (.inr rfl) at_set_eq ⟨?_, k2.trans k3⟩)
            have hb2 : later b = false := by rw [later_goes]; simpa using hq2.1 e6
            have : (c :: r).all later = false := by
              rw [List.all_eq_false]
              exact ⟨b, List.mem_of_getElem? hb, by simp [hb2]⟩
            simp only [List.all_cons, later_of_letter hc, Bool.true_and] at this
            simp [Sym, e1, e2, e3, this]
          · have hb2 : later b = true := by
              rw [later_goes]
              simp only [decide_eq_true_eq]
              exact Classical.byContradiction fun h => e6 (hq2.2 h)
            simp [e6, h22]
            refine hn ((c :: r).length - (i + 1)) _ _ (by omega) ⟨k2.trans k3, i + 1, rfl, by simp [h0], by simp [h21], ?_, hlt, fun j b' hj hb' => ?_⟩
            · rw [at_set_eq, IntWalk.i64_in _ (by omega)]; rfl
            · rcases Nat.lt_or_ge j i with h2 | h2
              · exact hno j b' h2 hb'
              · have : j = i := by omega
                subst this
                rw [hb] at hb'
                cases hb'
                exact hb2
        · simp
          refine he _ _ _ (by simp) ?_
          simp
          refine hQ _ _ _ (leave_sc (.inr rfl) at_set_eq ⟨?_, k2⟩)
          have hle : i = (c :: r).length := by simp at h hi ⊢; omega
          have : r.all later = true := by
            rw [List.all_eq_true]
            intro b hb
            obtain ⟨j, hj, e⟩ := List.getElem_of_mem hb
            exact hno (j + 1) b (by simp at hle ⊢; omega) (by rw [List.getElem?_cons_succ, List.getElem?_eq_getElem hj, e])
          simp [Sym, this, hc]
          omega
end Go.Proofs.YtnhcmcfgemoehaaGreat

/- What may be by itself. -/
set_option linter.unusedSimpArgs false
set_option linter.unusedVariables false
set_option linter.unusedSectionVars false
namespace Go.Proofs.YtnhcmcfgemoehaaGreat
set_option maxRecDepth 4000
open Go.V
theorem three_empty {α β γ : Type} (M : List α) (L : List β) (T : List γ) : decide ((M.length : Int) + L.length + T.length = 0) = (M.isEmpty && L.isEmpty && T.isEmpty) := by
  cases M <;> cases L <;> cases T <;> simp <;> omega
/-- empty -/
theorem g67 {K N : Int} {S : List UInt8} {M L T : List AV} (hM : M.length < 2 ^ 21) (hL : L.length < 2 ^ 21) (hT : T.length < 2 ^ 21) :
    Gives Tryz.prog cf 156 [.agg [int K, int N, .sc (.string ⟨⟨S⟩⟩), .lst M, .lst L, .lst T]] (.sc (.bool (decide (N = 0) && decide (S = []) && (M.isEmpty && L.isEmpty && T.isEmpty)))) := by
  refine gives_go Tryz.func156 rfl rfl rfl (by simp [Tryz.f156]) (by simp [Tryz.f156]) fun m Q hQ => ?_
  simp only [Tryz.f156, show cf.keepRes 156 = false from rfl] at hQ ⊢
  have w1 : IntKind.i64.wrap ((M.length : Int) + L.length) = M.length + L.length := IntWalk.i64_in _ (by omega)
  have w2 : IntKind.i64.wrap ((M.length : Int) + L.length + T.length) = M.length + L.length + T.length := IntWalk.i64_in _ (by omega)
  by_cases h1 : N = 0 <;> by_cases h2 : S = []
  all_goals
    simp [h1, h2, w1, w2]
    exact hQ _ _ _ (leave_sc (.inr rfl) at_set_eq ⟨by simp [h1, h2, three_empty], .new _ _ _⟩)
def asc (c : UInt8) : Bool := decide ((c.toNat : Int) < 128)
theorem asc_false {b : UInt8} (h : (128 : Int) ≤ b.toNat) : asc b = false := decide_eq_false (Int.not_lt.2 h)
theorem asc_true {b : UInt8} (h : ¬ (128 : Int) ≤ b.toNat) : asc b = true := decide_eq_true (Int.not_le.1 h)
/-- ascii -/
theorem g68 (l : List UInt8) (hl : l.length < 2 ^ 21) : Gives Tryz.prog cf 157 [.sc (.string ⟨⟨l⟩⟩)] (.sc (.bool (decide (l.length ≤ 256) && l.all asc))) := by
  refine gives_go Tryz.func157 rfl rfl rfl (by simp [Tryz.f157]) (by simp [Tryz.f157]) fun m Q hQ => ?_
  simp only [Tryz.f157, show cf.keepRes 157 = false from rfl] at hQ ⊢
  by_cases e4 : (256 : Int) < l.length
  · simp [e4]
    exact hQ _ _ _ (leave_sc (.inr rfl) at_set_eq ⟨by simp; omega, .refl m⟩)
  · simp [e4]
    refine go_loop (fun n s m' => m' = m ∧ ∃ i : Nat, n = l.length - i ∧ s.at 0 = .sc (.string ⟨⟨l⟩⟩) ∧ s.at 8 = int l.length ∧ s.at 9 = int i ∧ i ≤ l.length ∧ ∀ j b, j < i → l[j]? = some b → asc b = true) l.length ⟨rfl, 0, by simp⟩ ?_
    rintro n s _ ⟨rfl, i, rfl, h0, h8, h9, hi, hno⟩ Q' hn he
    simp [h0, h8, h9]
    refine goB_split (fun h => ?_) fun h => ?_
    · have hlt : i < l.length := by simp at h; omega
      obtain ⟨b, hb⟩ : ∃ b, l[i]? = some b := ⟨_, List.getElem?_eq_getElem hlt⟩
      simp [h0, h9, aindex_str Tryz.underlying9 hb]
      by_cases e6 : (128 : Int) ≤ b.toNat
      · simp [e6]
        refine he _ _ _ (by simp) ?_
        simp
        refine hQ _ _ _ (leave_sc (.inr rfl) at_set_eq ⟨?_, .refl _⟩)
        have : l.all asc = false := by
          rw [List.all_eq_false]
          exact ⟨b, List.mem_of_getElem? hb, by rw [asc_false e6]; simp⟩
        simp [this]
      · simp [e6, h9]
        refine hn (l.length - (i + 1)) _ _ (by omega) ⟨rfl, i + 1, rfl, by simp [h0], by simp [h8], ?_, hlt, fun j b' hj hb' => ?_⟩
        · rw [at_set_eq, IntWalk.i64_in _ (by omega)]; rfl
        · rcases Nat.lt_or_ge j i with h2 | h2
          · exact hno j b' h2 hb'
          · have : j = i := by omega
            subst this
            rw [hb] at hb'
            cases hb'
            exact asc_true e6
    · simp
      refine he _ _ _ (by simp) ?_
      simp
      refine hQ _ _ _ (leave_sc (.inr rfl) at_set_eq ⟨?_, .refl _⟩)
      have hle : i = l.length := by simp at h hi ⊢; omega
      have : l.all asc = true := by
        rw [List.all_eq_true]
        intro b hb
        obtain ⟨j, hj, e⟩ := List.getElem_of_mem hb
        exact hno j b (by omega) (by rw [List.getElem?_eq_getElem hj, e])
      simp [this]
      omega
/-- Is a mark wrong? -/
def wrong (n : Int) : Bool := decide (n < 1) || decide (1048576 < n)
theorem g69 (n : Int) : Gives Tryz.prog cf 158 [int n] (.sc (.bool (wrong n))) := by
  refine gives_go Tryz.func158 rfl rfl rfl (by simp [Tryz.f158]) (by simp [Tryz.f158]) fun m Q hQ => ?_
  simp only [Tryz.f158, show cf.keepRes 158 = false from rfl] at hQ ⊢
  by_cases h1 : n < 1
  all_goals
    simp [h1]
    exact hQ _ _ _ (leave_sc (.inr rfl) at_set_eq ⟨by simp [wrong, h1], .refl _⟩)
/-- slices.IndexFunc with the marks' test: is its answer negative? -/
theorem g72 (l : List Int) (hl : l.length < 2 ^ 21) : ∃ r : Int, (0 ≤ r ↔ l.any wrong = true) ∧ Gives Tryz.prog cf 177 [.lst (l.map int), .fn (.func 158) [] []] (int r) := by
  refine ⟨match l.findIdx? wrong with | some i => i | none => -1, ?_, ?_⟩
  · cases hf : l.findIdx? wrong with
    | none =>
      rw [List.findIdx?_eq_none_iff] at hf
      simp
      exact hf
    | some i =>
      rw [List.findIdx?_eq_some_iff_getElem] at hf
      obtain ⟨h1, h2, _⟩ := hf
      simp only [List.any_eq_true]
      exact ⟨fun _ => ⟨_, List.getElem_mem h1, h2⟩, fun _ => by omega⟩
  refine gives_go Tryz.func177 rfl rfl rfl (by simp [Tryz.f177]) (by simp [Tryz.f177]) fun m Q hQ => ?_
  simp only [Tryz.f177, show cf.keepRes 177 = false from rfl] at hQ ⊢
  simp
  refine go_loop (fun n s m' => Kp m m' ∧ ∃ i : Nat, n = l.length - i ∧ s.at 0 = .lst (l.map int) ∧ s.at 1 = .fn (.func 158) [] [] ∧ s.at 7 = int l.length ∧ s.at 8 = int i ∧ i ≤ l.length ∧ ∀ j b, j < i → l[j]? = some b → wrong b = false) l.length ⟨.refl m, 0, by simp⟩ ?_
  rintro n s m1 ⟨k1, i, rfl, h0, h1, h7, h8, hi, hno⟩ Q' hn he
  simp [h7, h8]
  refine goB_split (fun h => ?_) fun h => ?_
  · have hlt : i < l.length := by simp at h; omega
    obtain ⟨b, hb⟩ : ∃ b, l[i]? = some b := ⟨_, List.getElem?_eq_getElem hlt⟩
    have hx : (l.map int)[i]? = some (int b) := by simp [hb]
    simp [h0, h1, h8, aindexAddr_lst Tryz.underlying54 tsize3 hx]
    refine goH_gives (g69 b) fun m2 k2 => ?_
    cases e6 : wrong b with
    | true =>
      simp
      refine he _ _ _ (by simp) ?_
      simp
      refine hQ _ _ _ (leave_sc (.inr rfl) at_set_eq ⟨?_, k1.trans k2⟩)
      have : l.findIdx? wrong = some i := by
        rw [List.findIdx?_eq_some_iff_getElem]
        obtain ⟨h2, rfl⟩ := List.getElem?_eq_some_iff.1 hb
        refine ⟨h2, e6, fun j hj => ?_⟩
        simp [hno j _ hj (List.getElem?_eq_getElem (by omega))]
      simp [this]
    | false =>
      simp [h8]
      refine hn (l.length - (i + 1)) _ _ (by omega) ⟨k1.trans k2, i + 1, rfl, by simp [h0], by simp [h1], by simp [h7], ?_, hlt, fun j b' hj hb' => ?_⟩
      · rw [at_set_eq, IntWalk.i64_in _ (by omega)]; rfl
      · rcases Nat.lt_or_ge j i with h2 | h2
        · exact hno j b' h2 hb'
        · have : j = i := by omega
          subst this
          rw [hb] at hb'
          cases hb'
          exact e6
  · simp
    refine he _ _ _ (by simp) ?_
    simp
    refine hQ _ _ _ (leave_sc (.inr rfl) at_set_eq ⟨?_, k1⟩)
    have hle : i = l.length := by simp at h hi ⊢; omega
    have : l.findIdx? wrong = none := by
      rw [List.findIdx?_eq_none_iff]
      intro b hb
      obtain ⟨j, hj, e⟩ := List.getElem_of_mem hb
      exact hno j b (by omega) (by rw [List.getElem?_eq_getElem hj, e])
    simp [this]
theorem g70 (l : List Int) (hl : l.length < 2 ^ 21) : Gives Tryz.prog cf 159 [.lst (l.map int), .fn (.func 158) [] []] (.sc (.bool (l.any wrong))) := by
  obtain ⟨r, h, hg⟩ := g72 l hl
  refine gives_go Tryz.func159 rfl rfl rfl (by simp [Tryz.f159]) (by simp [Tryz.f159]) fun m Q hQ => ?_
  simp only [Tryz.f159, show cf.keepRes 159 = false from rfl] at hQ ⊢
  simp
  refine goH_gives hg fun m1 k1 => ?_
  simp
  refine hQ _ _ _ (leave_sc (.inr rfl) at_set_eq ⟨?_, k1⟩)
  congr 2
  rw [← Bool.coe_iff_coe]
  simp [h]
end Go.Proofs.YtnhcmcfgemoehaaGreat

/- What may be by itself: the two functions. -/
set_option linter.unusedSimpArgs false
set_option linter.unusedVariables false
set_option linter.unusedSectionVars false
namespace Go.Proofs.YtnhcmcfgemoehaaGreat
set_option maxRecDepth 4000
open Go.V
/-- 'a &^ b'. -/
def bic (a b : Int) : Int := IntKind.i64.wrap (BitVec.ofInt 64 a &&& ~~~ BitVec.ofInt 64 b).toNat
theorem abin_andNot {t : TypeId} {x y : Operand} {a b : Int} : abin Tryz.prog .andNot t x y (int a) (int b) = some (int (bic a b)) := by
  show Option.map AV.sc (pureRun Tryz.prog (do eqGuard .andNot t x y (.int .i64 a) (.int .i64 b); binOp .andNot t (.int .i64 a) (.int .i64 b))) = _
  rfl
theorem and_split {w : Nat} (x m : BitVec w) : (x &&& m) ||| (x &&& ~~~ m) = x := by
  ext i hi
  simp
  cases x[i] <;> cases m[i] <;> rfl
theorem andNot_zero (x : BitVec 64) (k : Nat) (hk : k < 64) : x &&& ~~~ (BitVec.ofNat 64 (2 ^ k - 1)) = 0 ↔ x.toNat < 2 ^ k := by
  have h1 : (x &&& BitVec.ofNat 64 (2 ^ k - 1)).toNat = x.toNat % 2 ^ k := by
    rw [BitVec.toNat_and, BitVec.toNat_ofNat, Nat.mod_eq_of_lt, Nat.and_two_pow_sub_one_eq_mod]
    have : 2 ^ k ≤ 2 ^ 63 := Nat.pow_le_pow_right (by omega) (by omega)
    have : (2:Nat) ^ 63 < 2 ^ 64 := by decide
    omega
  constructor
  · intro h
    have := and_split x (BitVec.ofNat 64 (2 ^ k - 1))
    rw [h] at this
    have h2 : x = x &&& BitVec.ofNat 64 (2 ^ k - 1) := by simpa using this.symm
    rw [h2, h1]
    exact Nat.mod_lt _ (Nat.two_pow_pos k)
  · intro h
    have h2 : x = x &&& BitVec.ofNat 64 (2 ^ k - 1) := by
      apply BitVec.eq_of_toNat_eq
      rw [h1, Nat.mod_eq_of_lt h]
    rw [h2, BitVec.and_assoc]
    simp
theorem andNot_int {N : Int} (hN : -9223372036854775808 ≤ N ∧ N ≤ 9223372036854775807) (k : Nat) (hk : k < 63) : (IntKind.i64.wrap (BitVec.ofInt 64 N &&& ~~~ (BitVec.ofInt 64 ((2 ^ k - 1 : Nat) : Int))).toNat = 0) ↔ (0 ≤ N ∧ N < 2 ^ k) := by
  have e : BitVec.ofInt 64 ((2 ^ k - 1 : Nat) : Int) = BitVec.ofNat 64 (2 ^ k - 1) := by simp
  have h1 := andNot_zero (BitVec.ofInt 64 N) k (by omega)
  rw [e]
  have h2 : (IntKind.i64.wrap (BitVec.ofInt 64 N &&& ~~~ (BitVec.ofNat 64 (2 ^ k - 1))).toNat = 0) ↔ (BitVec.ofInt 64 N &&& ~~~ (BitVec.ofNat 64 (2 ^ k - 1))) = 0 := by
    have hlt := (BitVec.ofInt 64 N &&& ~~~ (BitVec.ofNat 64 (2 ^ k - 1))).isLt
    rw [IntKind.wrap_i64]
    constructor
    · intro h
      apply BitVec.eq_of_toNat_eq
      simp only [BitVec.ofNat_eq_ofNat, BitVec.toNat_ofNat, Nat.zero_mod]
      omega
    · intro h; rw [h]; simp
  rw [h2, h1, BitVec.toNat_ofInt]
  have hp : (2:Nat) ^ k ≤ 2 ^ 62 := Nat.pow_le_pow_right (by omega) (by omega)
  have hp2 : ((2 ^ k : Nat) : Int) = 2 ^ k := by simp
  rw [← hp2]
  constructor
  · intro h; omega
  · intro h; omega
theorem bic_one {N : Int} (hN : -9223372036854775808 ≤ N ∧ N ≤ 9223372036854775807) : bic N 1 = 0 ↔ (N = 0 ∨ N = 1) := (andNot_int hN 1 (by omega)).trans (by constructor <;> intro h <;> omega)
theorem bic_127 {N : Int} (hN : -9223372036854775808 ≤ N ∧ N ≤ 9223372036854775807) : bic N 127 = 0 ↔ (0 ≤ N ∧ N ≤ 127) := (andNot_int hN 7 (by omega)).trans (by constructor <;> intro h <;> omega)
@[simp] theorem encs_isEmpty (l : List Dat) : (encs l).isEmpty = l.isEmpty := by cases l <;> simp [encs]
def Dat.K : Dat → Int | .mk K _ _ _ _ _ => K
def Dat.L : Dat → List Dat | .mk _ _ _ _ L _ => L
def Dat.T : Dat → List Dat | .mk _ _ _ _ _ T => T
/-- May a datum be by itself? -/
def alone : Dat → Bool
  | .mk K N S M L T =>
    if K = 1 then (decide (-1152921504606846976 ≤ N) && decide (N ≤ 1152921504606846975)) && decide (S = []) && M.isEmpty && L.isEmpty && T.isEmpty
    else if K = 2 then (decide (N = 0) || decide (N = 1)) && decide (S = []) && M.isEmpty && L.isEmpty && T.isEmpty
    else if K = 3 then decide (0 ≤ N) && decide (N ≤ 127) && decide (S = []) && M.isEmpty && L.isEmpty && T.isEmpty
    else if K = 4 then (decide (S.length ≤ 256) && S.all asc) && decide (N = 0) && M.isEmpty && L.isEmpty && T.isEmpty
    else if K = 5 then Sym S && (decide (M.length ≤ 16) && !M.any wrong) && decide (N = 0) && L.isEmpty && T.isEmpty
    else if K = 6 ∨ K = 8 then decide (N = 0) && decide (S = []) && M.isEmpty && T.isEmpty
    else if K = 7 then decide (N = 0) && decide (S = []) && M.isEmpty && !L.isEmpty && (match T with | [d] => decide (d.K ≠ 6) && decide (d.K ≠ 7) | _ => false)
    else false
set_option maxHeartbeats 2000000 in
theorem g59 {K N : Int} {S : List UInt8} {M : List Int} {L T : List Dat} (h : Fits K N S M L T) : Gives Tryz.prog cf 105 [enc (.mk K N S M L T)] (.sc (.bool (alone (.mk K N S M L T)))) := by
  refine gives_go Tryz.func105 rfl rfl rfl (by simp [Tryz.f105]) (by simp [Tryz.f105]) fun m Q hQ => ?_
  simp only [Tryz.f105, show cf.keepRes 105 = false from rfl, enc] at hQ ⊢
  have hm := h.m
  have hl := h.l
  have ht := h.t
  have kp : ∀ x y z w : List AV, Kp m ((((m.new x false).new y false).set (m.next + 1) z).set (m.next + 1) w) := fun _ _ _ _ => (((Kp.new _ _ _).newr _ _).set (by simp) _).set (by simp) _
  by_cases h1 : K = 1
  · subst h1
    simp [zeroCells]
    refine goH_gives (g66 N) fun m1 k1 => ?_
    have e1 := k1.get (m.next + 1) (by simp)
    simp at e1
    have k1' : Kp m m1 := .trans (kp _ _ _ _) k1
    cases hb : (decide (-1152921504606846976 ≤ N) && decide (N ≤ 1152921504606846975)) with
    | false =>
      simp
      exact hQ _ _ _ (leave_sc (.inr rfl) at_set_eq ⟨by simp [alone, hb], k1'⟩)
    | true =>
      simp [e1]
      refine goH_gives (g67 (K := 1) (N := 0) (S := S) (M := (M.map int)) (L := (encs L)) (T := (encs T)) (by simp; try omega) (by simp; try omega) (by simp; try omega)) fun m2 k2 => ?_
      simp
      exact hQ _ _ _ (leave_sc (.inr rfl) at_set_eq ⟨by simp [alone, hb, Bool.and_assoc], k1'.trans k2⟩)
  by_cases h2 : K = 2
  · subst h2
    by_cases hb : N = 0 ∨ N = 1
    · have a4 := (bic_one h.n).2 hb
      simp [zeroCells, abin_andNot, a4]
      refine goH_gives (g67 (K := 2) (N := 0) (S := S) (M := (M.map int)) (L := (encs L)) (T := (encs T)) (by simp; try omega) (by simp; try omega) (by simp; try omega)) fun m2 k2 => ?_
      simp
      exact hQ _ _ _ (leave_sc (.inr rfl) at_set_eq ⟨by simp [alone, hb, Bool.and_assoc], (kp _ _ _ _).trans k2⟩)
    · have a4 : ¬ (bic N 1 = 0) := fun h' => hb ((bic_one h.n).1 h')
      have hb' : (decide (N = 0) || decide (N = 1)) = false := by
        rw [← Bool.not_eq_true]; simpa using hb
      simp [zeroCells, abin_andNot, a4]
      exact hQ _ _ _ (leave_sc (.inr rfl) at_set_eq ⟨by simp [alone, hb'], kp _ _ _ _⟩)
  by_cases h3 : K = 3
  · subst h3
    by_cases hb : 0 ≤ N ∧ N ≤ 127
    · have a4 := (bic_127 h.n).2 hb
      simp [zeroCells, abin_andNot, a4]
      refine goH_gives (g67 (K := 3) (N := 0) (S := S) (M := (M.map int)) (L := (encs L)) (T := (encs T)) (by simp; try omega) (by simp; try omega) (by simp; try omega)) fun m2 k2 => ?_
      simp
      exact hQ _ _ _ (leave_sc (.inr rfl) at_set_eq ⟨by simp [alone, hb, Bool.and_assoc], (kp _ _ _ _).trans k2⟩)
    · have a4 : ¬ (bic N 127 = 0) := fun h' => hb ((bic_127 h.n).1 h')
      have hb' : (decide (0 ≤ N) && decide (N ≤ 127)) = false := by
        rw [← Bool.not_eq_true]; simpa using hb
      simp [zeroCells, abin_andNot, a4]
      exact hQ _ _ _ (leave_sc (.inr rfl) at_set_eq ⟨by simp [alone, hb'], kp _ _ _ _⟩)
  by_cases h4 : K = 4
  · subst h4
    simp [zeroCells]
    refine goH_gives (g68 S h.s) fun m1 k1 => ?_
    have e1 := k1.get (m.next + 1) (by simp)
    simp at e1
    have k1' : Kp m m1 := .trans (kp _ _ _ _) k1
    cases hb : (decide (S.length ≤ 256) && S.all asc) with
    | false =>
      simp
      exact hQ _ _ _ (leave_sc (.inr rfl) at_set_eq ⟨by simp [alone, hb], k1'⟩)
    | true =>
      simp [e1]
      refine goH_gives (g67 (K := 4) (N := N) (S := []) (M := (M.map int)) (L := (encs L)) (T := (encs T)) (by simp; try omega) (by simp; try omega) (by simp; try omega)) fun m2 k2 => ?_
      simp
      exact hQ _ _ _ (leave_sc (.inr rfl) at_set_eq ⟨by simp [alone, hb, Bool.and_assoc], k1'.trans k2⟩)
  by_cases h5 : K = 5
  · subst h5
    have kp5 : ∀ x y z w v : List AV, Kp m (((((m.new x false).new y false).set (m.next + 1) z).set (m.next + 1) w).set (m.next + 1) v) := fun _ _ _ _ _ => (kp _ _ _ _).set (by simp) _
    simp [zeroCells]
    refine goH_gives (g12 S (by have := h.s; omega)) fun m1 k1 => ?_
    have e0 := k1.get m.next (by simp; omega)
    have e1 := k1.get (m.next + 1) (by simp)
    simp at e0 e1
    have k1' : Kp m m1 := .trans (kp5 _ _ _ _ _) k1
    cases hs : Sym S with
    | false =>
      simp
      exact hQ _ _ _ (leave_sc (.inr rfl) at_set_eq ⟨by simp [alone, hs], k1'⟩)
    | true =>
      simp [e0]
      by_cases hb : M.length ≤ 16
      · have hb' : (M.length : Int) ≤ 16 := by omega
        simp [hb', e0]
        refine goH_gives (g70 M h.m) fun m2 k2 => ?_
        have f1 := (k2.get (m.next + 1) (by have := k1.next; simp at this; omega)).trans e1
        cases hw : M.any wrong with
        | true =>
          simp
          exact hQ _ _ _ (leave_sc (.inr rfl) at_set_eq ⟨by simp [alone, hs, hw], k1'.trans k2⟩)
        | false =>
          simp [f1]
          refine goH_gives (g67 (K := 5) (N := N) (S := []) (M := []) (L := (encs L)) (T := (encs T)) (by simp; try omega) (by simp; try omega) (by simp; try omega)) fun m3 k3 => ?_
          simp
          exact hQ _ _ _ (leave_sc (.inr rfl) at_set_eq ⟨by simp [alone, hs, hw, hb, Bool.and_assoc], (k1'.trans k2).trans k3⟩)
      · have hb' : ¬ (M.length : Int) ≤ 16 := by omega
        simp [hb']
        exact hQ _ _ _ (leave_sc (.inr rfl) at_set_eq ⟨by simp [alone, hs, hb], k1'⟩)
  by_cases h6 : K = 6
  · subst h6
    simp [zeroCells]
    refine goH_gives (g67 (K := 6) (N := N) (S := S) (M := (M.map int)) (L := []) (T := (encs T)) (by simp; try omega) (by simp; try omega) (by simp; try omega)) fun m2 k2 => ?_
    simp
    exact hQ _ _ _ (leave_sc (.inr rfl) at_set_eq ⟨by simp [alone, Bool.and_assoc], (kp _ _ _ _).trans k2⟩)
  by_cases h8 : K = 8
  · subst h8
    simp [zeroCells]
    refine goH_gives (g67 (K := 8) (N := N) (S := S) (M := (M.map int)) (L := []) (T := (encs T)) (by simp; try omega) (by simp; try omega) (by simp; try omega)) fun m2 k2 => ?_
    simp
    exact hQ _ _ _ (leave_sc (.inr rfl) at_set_eq ⟨by simp [alone, Bool.and_assoc], (kp _ _ _ _).trans k2⟩)
  by_cases h7 : K = 7
  · subst h7
    simp [zeroCells]
    have kp5 : ∀ x y z w v : List AV, Kp m (((((m.new x false).new y false).set (m.next + 1) z).set (m.next + 1) w).set (m.next + 1) v) := fun _ _ _ _ _ => (kp _ _ _ _).set (by simp) _
    cases L with
    | nil =>
      simp [encs]
      exact hQ _ _ _ (leave_sc (.inr rfl) at_set_eq ⟨by simp [alone], kp5 _ _ _ _ _⟩)
    | cons l0 lr =>
      simp [encs]
      match T with
      | [] =>
        simp [encs]
        exact hQ _ _ _ (leave_sc (.inr rfl) at_set_eq ⟨by simp [alone], kp5 _ _ _ _ _⟩)
      | d :: d2 :: tr =>
        have hne : ¬ ((tr.length : Int) + 1 + 1 = 1) := by omega
        simp [encs, hne]
        exact hQ _ _ _ (leave_sc (.inr rfl) at_set_eq ⟨by simp [alone], kp5 _ _ _ _ _⟩)
      | [.mk K2 N2 S2 M2 L2 T2] =>
        simp [encs, enc, aindexAddr_lst0 Tryz.underlying43 tsize56]
        by_cases e6 : K2 = 6
        · simp [e6]
          exact hQ _ _ _ (leave_sc (.inr rfl) at_set_eq ⟨by simp [alone, Dat.K, e6], kp5 _ _ _ _ _⟩)
        · by_cases e7 : K2 = 7
          · simp [e6, e7, enc, aindexAddr_lst0 Tryz.underlying43 tsize56]
            exact hQ _ _ _ (leave_sc (.inr rfl) at_set_eq ⟨by simp [alone, Dat.K, e7], kp5 _ _ _ _ _⟩)
          · simp [e6, e7, enc, aindexAddr_lst0 Tryz.underlying43 tsize56]
            refine goH_gives (g67 (K := 7) (N := N) (S := S) (M := (M.map int)) (L := []) (T := []) (by simp; try omega) (by simp; try omega) (by simp; try omega)) fun m2 k2 => ?_
            simp
            exact hQ _ _ _ (leave_sc (.inr rfl) at_set_eq ⟨by simp [alone, Dat.K, e6, e7, Bool.and_assoc], (kp5 _ _ _ _ _).trans k2⟩)
  · simp [h1, h2, h3, h4, h5, h6, h7, h8, zeroCells]
    exact hQ _ _ _ (leave_sc (.inr rfl) at_set_eq ⟨by simp [alone, h1, h2, h3, h4, h5, h6, h7, h8], ((Kp.new _ _ _).newr _ _).set (by simp) _⟩)
end Go.Proofs.YtnhcmcfgemoehaaGreat

/- What may be by itself: the reference. -/
set_option linter.unusedSimpArgs false
set_option linter.unusedVariables false
set_option linter.unusedSectionVars false
namespace Go.Proofs.YtnhcmcfgemoehaaGreat
set_option maxRecDepth 4000
open Go.V
set_option maxHeartbeats 2000000 in
theorem g71 {K N : Int} {S : List UInt8} {M : List Int} {L T : List Dat} (h : Fits K N S M L T) : Gives Tryz.prog cf 174 [enc (.mk K N S M L T)] (.sc (.bool (alone (.mk K N S M L T)))) := by
  refine gives_go Tryz.func174 rfl rfl rfl (by simp [Tryz.f174]) (by simp [Tryz.f174]) fun m Q hQ => ?_
  simp only [Tryz.f174, show cf.keepRes 174 = false from rfl, enc] at hQ ⊢
  have hm := h.m
  have hs := h.s
  have hl := h.l
  have ht := h.t
  generalize hn : decide (N = 0) = bn
  simp [hn]
  generalize hbs : decide (S = []) = bs
  generalize hbm : decide (M = []) = bm
  generalize hbl : decide (L = []) = bl
  generalize hbt : decide (T = []) = bt
  have eM : M.isEmpty = bm := by rw [← hbm]; cases M <;> simp
  have eL : L.isEmpty = bl := by rw [← hbl]; cases L <;> simp
  have eT : T.isEmpty = bt := by rw [← hbt]; cases T <;> simp
  by_cases h1 : K = 1
  · subst h1
    simp
    refine goH_gives (g73 N) fun m1 k1 => ?_
    have k1' : Kp m m1 := .trans (.new _ _ _) k1
    generalize hb : (decide (-1152921504606846976 ≤ N) && decide (N ≤ 1152921504606846975)) = b
    cases b <;> cases bs <;> cases bm <;> cases bl <;> cases bt
    all_goals
      simp
      exact hQ _ _ _ (leave_sc (.inr rfl) at_set_eq ⟨by simp [alone, hn, hbs, eM, eL, eT, hb], k1'⟩)
  by_cases h2 : K = 2
  · subst h2
    by_cases e0 : N = 0
    · subst e0
      simp
      cases bs <;> cases bm <;> cases bl <;> cases bt
      all_goals
        simp
        exact hQ _ _ _ (leave_sc (.inr rfl) at_set_eq ⟨by simp [alone, hn, hbs, eM, eL, eT], .new _ _ _⟩)
    · by_cases e1 : N = 1
      · subst e1
        simp
        cases bs <;> cases bm <;> cases bl <;> cases bt
        all_goals
          simp
          exact hQ _ _ _ (leave_sc (.inr rfl) at_set_eq ⟨by simp [alone, hn, hbs, eM, eL, eT], .new _ _ _⟩)
      · simp [e0, e1]
        exact hQ _ _ _ (leave_sc (.inr rfl) at_set_eq ⟨by simp [alone, hn, hbs, eM, eL, eT, e0, e1], .new _ _ _⟩)
  by_cases h3 : K = 3
  · subst h3
    by_cases e0 : 0 ≤ N
    · by_cases e1 : N ≤ 127
      · simp [e0, e1]
        cases bs <;> cases bm <;> cases bl <;> cases bt
        all_goals
          simp
          exact hQ _ _ _ (leave_sc (.inr rfl) at_set_eq ⟨by simp [alone, hn, hbs, eM, eL, eT, e0, e1], .new _ _ _⟩)
      · simp [e0, e1]
        exact hQ _ _ _ (leave_sc (.inr rfl) at_set_eq ⟨by simp [alone, hn, hbs, eM, eL, eT, e0, e1], .new _ _ _⟩)
    · simp [e0]
      exact hQ _ _ _ (leave_sc (.inr rfl) at_set_eq ⟨by simp [alone, hn, hbs, eM, eL, eT, e0], .new _ _ _⟩)
  by_cases h6 : K = 6
  · subst h6
    simp
    cases bn <;> cases bs <;> cases bm <;> cases bt
    all_goals
      simp
      exact hQ _ _ _ (leave_sc (.inr rfl) at_set_eq ⟨by simp [alone, hn, hbs, eM, eL, eT], .new _ _ _⟩)
  by_cases h8 : K = 8
  · subst h8
    simp
    cases bn <;> cases bs <;> cases bm <;> cases bt
    all_goals
      simp
      exact hQ _ _ _ (leave_sc (.inr rfl) at_set_eq ⟨by simp [alone, hn, hbs, eM, eL, eT], .new _ _ _⟩)
  by_cases h7 : K = 7
  · subst h7
    simp
    cases hT : T with
    | nil =>
      cases bn <;> cases bs <;> cases bm <;> cases bl
      all_goals
        simp [encs]
        exact hQ _ _ _ (leave_sc (.inr rfl) at_set_eq ⟨by simp [alone, hn, hbs, eM, eL, hT], .new _ _ _⟩)
    | cons d tr =>
      cases tr with
      | cons d2 tr =>
        have hne : ¬ ((tr.length : Int) + 1 + 1 = 1) := by omega
        cases bn <;> cases bs <;> cases bm <;> cases bl
        all_goals
          simp [encs, hne]
          exact hQ _ _ _ (leave_sc (.inr rfl) at_set_eq ⟨by simp [alone, hn, hbs, eM, eL, hT], .new _ _ _⟩)
      | nil =>
        obtain ⟨K2, N2, S2, M2, L2, T2⟩ := d
        by_cases e6 : K2 = 6
        · cases bn <;> cases bs <;> cases bm <;> cases bl
          all_goals
            simp [encs, enc, aindexAddr_lst0 Tryz.underlying43 tsize56, e6]
            exact hQ _ _ _ (leave_sc (.inr rfl) at_set_eq ⟨by simp [alone, hn, hbs, eM, eL, hT, Dat.K, e6], .new _ _ _⟩)
        · by_cases e7 : K2 = 7
          all_goals
            cases bn <;> cases bs <;> cases bm <;> cases bl
            all_goals
              simp [encs, enc, aindexAddr_lst0 Tryz.underlying43 tsize56, e6, e7]
              exact hQ _ _ _ (leave_sc (.inr rfl) at_set_eq ⟨by simp [alone, hn, hbs, eM, eL, hT, Dat.K, e6, e7], .new _ _ _⟩)
  by_cases h4 : K = 4
  · subst h4
    simp
    refine go_loop (fun n s m' => m' = m.new [int 4, int N, .sc (.string ⟨⟨S⟩⟩), .lst (M.map int), .lst (encs L), .lst (encs T)] false ∧ ∃ i : Nat, n = S.length - i ∧ s.at 1 = .ptr m.next 0 ∧ s.at 3 = .sc (.bool bn) ∧ s.at 5 = .sc (.bool bm) ∧ s.at 6 = .sc (.bool bl) ∧ s.at 7 = .sc (.bool bt) ∧ s.at 8 = int i ∧ i ≤ S.length ∧ i ≤ 256 ∧ ∀ j b, j < i → S[j]? = some b → asc b = true) S.length ⟨rfl, 0, by simp⟩ ?_
    rintro n s _ ⟨rfl, i, rfl, q1, q3, q5, q6, q7, q8, hi, hi2, hno⟩ Q' hn' he
    simp [q1, q8]
    refine goB_split (fun h => ?_) fun h => ?_
    · have hlt : i < S.length := by simpa using h
      obtain ⟨b, hb⟩ : ∃ b, S[i]? = some b := ⟨_, List.getElem?_eq_getElem hlt⟩
      have ret : ∀ s4 : Sl, s4.at 2 = .sc (.bool false) → (decide (S.length ≤ 256) && S.all asc) = false → Q .ret s4 (m.new [int 4, int N, .sc (.string ⟨⟨S⟩⟩), .lst (M.map int), .lst (encs L), .lst (encs T)] false) := fun s4 a2 hf => hQ _ _ _ (leave_sc (.inr rfl) a2 ⟨by simp [alone, hf], .new _ _ _⟩)
      by_cases e5 : (256 : Int) ≤ i
      · simp [q1, q8, e5]
        refine he _ _ _ (by simp) ?_
        simp
        refine ret _ (by simp) ?_
        have : ¬ S.length ≤ 256 := by omega
        simp [this]
      · simp [q1, q8, e5, aindex_str Tryz.underlying9 hb]
        by_cases e6 : (127 : Int) < b.toNat
        · simp [e6]
          refine he _ _ _ (by simp) ?_
          simp
          refine ret _ (by simp) ?_
          have : S.all asc = false := by
            rw [List.all_eq_false]
            exact ⟨b, List.mem_of_getElem? hb, by rw [asc_false (by omega)]; simp⟩
          simp [this]
        · simp [e6, q8]
          refine hn' (S.length - (i + 1)) _ _ (by omega) ⟨rfl, i + 1, rfl, by simp [q1], by simp [q3], by simp [q5], by simp [q6], by simp [q7], ?_, hlt, by omega, fun j b' hj hb' => ?_⟩
          · rw [at_set_eq, IntWalk.i64_in _ (by omega)]; rfl
          · rcases Nat.lt_or_ge j i with h2 | h2
            · exact hno j b' h2 hb'
            · have : j = i := by omega
              subst this
              rw [hb] at hb'
              cases hb'
              exact asc_true (by omega)
    · simp
      refine he _ _ _ (by simp) ?_
      have hle : i = S.length := by simp at h hi ⊢; omega
      have hall : S.all asc = true := by
        rw [List.all_eq_true]
        intro b hb
        obtain ⟨j, hj, e⟩ := List.getElem_of_mem hb
        exact hno j b (by omega) (by rw [List.getElem?_eq_getElem hj, e])
      have hlen : S.length ≤ 256 := by omega
      cases bn <;> cases bm <;> cases bl <;> cases bt
      all_goals
        simp [q3, q5, q6, q7]
        exact hQ _ _ _ (leave_sc (.inr rfl) at_set_eq ⟨by simp [alone, hn, hbs, eM, eL, eT, hall, hlen], .new _ _ _⟩)
  by_cases h5 : K = 5
  · subst h5
    simp
    refine go_loop (fun n s m' => m' = m.new [int 5, int N, .sc (.string ⟨⟨S⟩⟩), .lst (M.map int), .lst (encs L), .lst (encs T)] false ∧ ∃ i : Nat, n = M.length - i ∧ s.at 1 = .ptr m.next 0 ∧ s.at 3 = .sc (.bool bn) ∧ s.at 6 = .sc (.bool bl) ∧ s.at 7 = .sc (.bool bt) ∧ s.at 9 = int i ∧ i ≤ M.length ∧ i ≤ 16 ∧ ∀ j b, j < i → M[j]? = some b → wrong b = false) M.length ⟨rfl, 0, by simp⟩ ?_
    rintro n s _ ⟨rfl, i, rfl, q1, q3, q6, q7, q9, hi, hi2, hno⟩ Q' hn' he
    simp [q1, q9]
    refine goB_split (fun h => ?_) fun h => ?_
    · have hlt : i < M.length := by simpa using h
      obtain ⟨b, hb⟩ : ∃ b, M[i]? = some b := ⟨_, List.getElem?_eq_getElem hlt⟩
      have hx : (M.map int)[i]? = some (int b) := by simp [hb]
      have ret : ∀ s4 : Sl, s4.at 2 = .sc (.bool false) → (decide (M.length ≤ 16) && !M.any wrong) = false → Q .ret s4 (m.new [int 5, int N, .sc (.string ⟨⟨S⟩⟩), .lst (M.map int), .lst (encs L), .lst (encs T)] false) := fun s4 a2 hf => hQ _ _ _ (leave_sc (.inr rfl) a2 ⟨by simp [alone, hf], .new _ _ _⟩)
      by_cases e5 : (16 : Int) ≤ i
      · simp [q1, q9, e5]
        refine he _ _ _ (by simp) ?_
        simp
        refine ret _ (by simp) ?_
        have : ¬ M.length ≤ 16 := by omega
        simp [this]
      · have bad : wrong b = true → (decide (M.length ≤ 16) && !M.any wrong) = false := by
          intro hw
          have : M.any wrong = true := by
            rw [List.any_eq_true]
            exact ⟨b, List.mem_of_getElem? hb, hw⟩
          simp [this]
        by_cases e6 : b < 1
        · simp [q1, q9, e5, aindexAddr_lst Tryz.underlying54 tsize3 hx, e6]
          refine he _ _ _ (by simp) ?_
          simp
          exact ret _ (by simp) (bad (by simp [wrong, e6]))
        · by_cases e7 : 1048576 < b
          · simp [q1, q9, e5, aindexAddr_lst Tryz.underlying54 tsize3 hx, e6, e7]
            refine he _ _ _ (by simp) ?_
            simp
            exact ret _ (by simp) (bad (by simp [wrong, e7]))
          · simp [q1, q9, e5, aindexAddr_lst Tryz.underlying54 tsize3 hx, e6, e7]
            refine hn' (M.length - (i + 1)) _ _ (by omega) ⟨rfl, i + 1, rfl, by simp [q1], by simp [q3], by simp [q6], by simp [q7], ?_, hlt, by omega, fun j b' hj hb' => ?_⟩
            · rw [at_set_eq, IntWalk.i64_in _ (by omega)]; rfl
            · rcases Nat.lt_or_ge j i with h2 | h2
              · exact hno j b' h2 hb'
              · have : j = i := by omega
                subst this
                rw [hb] at hb'
                cases hb'
                simp [wrong]
                omega
    · simp
      refine he _ _ _ (by simp) ?_
      have hle : i = M.length := by simp at h hi ⊢; omega
      have hall : M.any wrong = false := by
        rw [List.any_eq_false]
        intro b hb
        obtain ⟨j, hj, e⟩ := List.getElem_of_mem hb
        rw [hno j b (by omega) (by rw [List.getElem?_eq_getElem hj, e])]
        simp
      have hlen : M.length ≤ 16 := by omega
      simp [q1]
      refine goH_gives (g13 S (by omega)) fun m1 k1 => ?_
      have k1' : Kp m m1 := .trans (.new _ _ _) k1
      cases hs2 : Sym S <;> cases bn <;> cases bl <;> cases bt
      all_goals
        simp [q3, q6, q7]
        exact hQ _ _ _ (leave_sc (.inr rfl) at_set_eq ⟨by simp [alone, hn, eL, eT, hall, hlen, hs2], k1'⟩)
  · simp [h1, h2, h3, h4, h5, h6, h7, h8]
    exact hQ _ _ _ (leave_sc (.inr rfl) at_set_eq ⟨by simp [alone, h1, h2, h3, h4, h5, h6, h7, h8], .new _ _ _⟩)
end Go.Proofs.YtnhcmcfgemoehaaGreat

/- Going through a datum. -/
set_option linter.unusedSimpArgs false
set_option linter.unusedVariables false
set_option linter.unusedSectionVars false
namespace Go.Proofs.YtnhcmcfgemoehaaGreat
set_option maxRecDepth 4000
open Go.V
/-- One goes on if there is no error. -/
def nxt (r : Int × Int × Int) (f : Int → Int → Int × Int × Int) : Int × Int × Int := if r.1 = 0 then f r.2.1 r.2.2 else r
mutual
/-- How far one gets: the error, the parts, the deepest. -/
def wk : Dat → Int → Int → Int → Int × Int × Int
  | .mk K N S M L T, deep, p, q =>
    if 64 < deep then (4, p, q) else if 4096 ≤ p then (3, p, q) else if alone (.mk K N S M L T) = false then (20, p, q) else
    nxt (wks L (deep + 1) (p + 1) (max q deep)) fun p q => wks T (deep + 1) p q
def wks : List Dat → Int → Int → Int → Int × Int × Int
  | [], _, p, q => (0, p, q)
  | d :: l, deep, p, q => nxt (wk d deep p q) fun p q => wks l deep p q
end
/-- What the walk's closure finds in its captured variables. -/
structure St (m : Mem) (P Q S T D : Nat) (p q : Int) : Prop where
  p : has m P [int p]
  q : has m Q [int q]
  s : has m S [.sc .nilFunc]
  t : has m T [.sc (.bool false)]
  d : has m D [.fn (.func 104) [] [.ptr P 0, .ptr Q 0, .ptr S 0, .ptr T 0, .ptr D 0]]
def two (P Q : Nat) (id : Nat) : Prop := id = P ∨ id = Q
theorem St.kp {m m' : Mem} {P Q S T D : Nat} {p q : Int} (h : St m P Q S T D p q) (k : Kp m m') : St m' P Q S T D p q := ⟨h.p.kp k, h.q.kp k, h.s.kp k, h.t.kp k, h.d.kp k⟩
theorem amax2 {t u T : TypeId} {a b : Int} {m : Mem} : abuiltin Tryz.prog .max #[t, u] T [int a, int b] m = some (int (max a b), m) := by
  show Option.map (·, m) (Option.map AV.sc (pureRun Tryz.prog (Builtin.max_ #[t, u] T [Value.int .i64 a, Value.int .i64 b].toArray))) = _
  have : pureRun Tryz.prog (Builtin.max_ #[t, u] T [Value.int .i64 a, Value.int .i64 b].toArray) = some (.int .i64 (if b > a then b else a)) := rfl
  rw [this]
  have : (if b > a then b else a) = max a b := by simp only [Int.max_def]; split <;> split <;> omega
  rw [this]
  rfl
theorem neqNil {x y : Operand} : abin Tryz.prog .neq 159 x y (.sc .nilFunc) (.sc .nilFunc) = some (.sc (.bool false)) := by
  show Option.map AV.sc (pureRun Tryz.prog (do eqGuard .neq 159 x y .nilFunc .nilFunc; binOp .neq 159 .nilFunc .nilFunc)) = _
  kernel_rfl
set_option maxHeartbeats 4000000 in
theorem g58 (P Qq S T D : Nat) (hd : P ≠ Qq ∧ P ≠ S ∧ P ≠ T ∧ P ≠ D ∧ Qq ≠ S ∧ Qq ≠ T ∧ Qq ≠ D) : ∀ (n : Nat) (d : Dat), d.size ≤ n → d.fits → ∀ (deep p q : Int) (m : Mem), 0 ≤ deep ∧ deep ≤ 1000 → 0 ≤ p → St m P Qq S T D p q →
    wph Tryz.prog cf (.func 104) [enc d, int deep, .ptr P 0, .ptr Qq 0, .ptr S 0, .ptr T 0, .ptr D 0] m fun v m' => v = int (wk d deep p q).1 ∧ St m' P Qq S T D (wk d deep p q).2.1 (wk d deep p q).2.2 ∧ p ≤ (wk d deep p q).2.1 ∧ KpX (two P Qq) m m' := by
  intro n
  induction n with
  | zero => intro d hs; cases d; simp [Dat.size] at hs
  | succ n ih =>
    intro d hs hfit deep p q m hdeep hp hst
    obtain ⟨K, N, Sx, M, L, Tx⟩ := d
    obtain ⟨d1, d2, d3, d4, d5, d6, d7⟩ := hd
    refine wph_go Tryz.func104 rfl rfl (by simp [Tryz.f104]) (by simp [Tryz.f104]) fun Q hQ => ?_
    simp only [Tryz.f104, show cf.keepRes 104 = false from rfl, show cf.keepArgs 104 = false from rfl] at hQ ⊢
    simp only [enc]
    obtain ⟨pl, pv, pe⟩ := hst.p
    obtain ⟨ql, qv, qe⟩ := hst.q
    have pn : P ≠ m.next := by omega
    by_cases e1 : 64 < deep
    · simp [e1]
      refine hQ _ _ _ (leave_sc (.inr rfl) at_set_eq ?_)
      refine ⟨by simp [wk, e1], ?_, by simp [wk, e1], (KpX.refl _ _).new _ _⟩
      simpa [wk, e1] using hst.kp (.new _ _ _)
    by_cases e2 : 4096 ≤ p
    · simp [e1, pe, pn, e2]
      refine hQ _ _ _ (leave_sc (.inr rfl) at_set_eq ?_)
      refine ⟨by simp [wk, e1, e2], ?_, by simp [wk, e1, e2], (KpX.refl _ _).new _ _⟩
      simpa [wk, e1, e2] using hst.kp (.new _ _ _)
    simp [e1, pe, pn, e2]
    refine goH_gives (g59 (alone_fits hfit)) (fun m1 k1 => ?_) (by simp [enc])
    have st1 : St m1 P Qq S T D p q := (hst.kp (.new _ _ _)).kp k1
    have kx1 : KpX (two P Qq) m m1 := ((KpX.refl _ _).new _ _).trans (.of k1)
    have b1 := k1.get m.next (by simp)
    simp at b1
    cases ha : alone (.mk K N Sx M L Tx) with
    | false =>
      simp
      refine hQ _ _ _ (leave_sc (.inr rfl) at_set_eq ?_)
      refine ⟨by simp [wk, e1, e2, ha], ?_, by simp [wk, e1, e2, ha], kx1⟩
      simpa [wk, e1, e2, ha] using st1
    | true =>
      obtain ⟨pl1, pv1, pe1⟩ := st1.p
      obtain ⟨ql1, qv1, qe1⟩ := st1.q
      obtain ⟨sl1, sv1, se1⟩ := st1.s
      obtain ⟨tl1, tv1, te1⟩ := st1.t
      have w1 : IntKind.i64.wrap (p + 1) = p + 1 := IntWalk.i64_in _ (by omega)
      have n1 : m.next < m1.next := by have := k1.next; simp at this; omega
      have d1' := Ne.symm d1
      have d2' := Ne.symm d2
      have d3' := Ne.symm d3
      have d5' := Ne.symm d5
      have d6' := Ne.symm d6
      have q1 : m.next ≠ P := by omega
      have q2 : m.next ≠ Qq := by omega
      simp [pe1, qe1, se1, te1, w1, d1, d1', d2, d2', d3, d3', d5, d5', d6, d6', amax2, neqNil, b1, q1, q2, abuildSlice, fillAt, zeros]
      have hL : fitss L := by rw [Dat.fits] at hfit; exact hfit.2.1
      have hT : fitss Tx := by rw [Dat.fits] at hfit; exact hfit.2.2
      have hsz : sizes L ≤ n ∧ sizes Tx ≤ n := by rw [Dat.size] at hs; omega
      -- what is left to do with the o-th list
      let Ls : Nat → List Dat := fun o => if o = 0 then L else Tx
      let rem : Nat → Int → Int → Int × Int × Int := fun o p q => if o = 0 then nxt (wks L (deep + 1) p q) fun p q => wks Tx (deep + 1) p q else if o = 1 then wks Tx (deep + 1) p q else (0, p, q)
      have hrem : wk (.mk K N Sx M L Tx) deep p q = rem 0 (p + 1) (max q deep) := by
        simp [wk, e1, e2, ha, rem]
      let slots : Sl → Prop := fun s => s.at 1 = int deep ∧ s.at 2 = .ptr P 0 ∧ s.at 3 = .ptr Qq 0 ∧ s.at 4 = .ptr S 0 ∧ s.at 5 = .ptr T 0 ∧ s.at 6 = .ptr D 0 ∧ s.at 44 = .sl m1.next 0 2 1 false (some 2) ∧ s.at 45 = int 2
      let mems : Mem → Int → Int → Prop := fun m' p' q' => St m' P Qq S T D p' q' ∧ has m' m1.next [.lst (encs L), .lst (encs Tx)] ∧ KpX (two P Qq) m m' ∧ p ≤ p'
      refine go_loop (fun k s m' => ∃ (o : Nat) (p' q' : Int), k = 2 - o ∧ o ≤ 2 ∧ slots s ∧ s.at 46 = int o ∧ mems m' p' q' ∧ wk (.mk K N Sx M L Tx) deep p q = rem o p' q') 2 ⟨0, p + 1, max q deep, rfl, by omega, by simp [slots], by simp, ?_, hrem⟩ ?_
      · have stx : ∀ m' : Mem, m' = ((m1.set P [int (p + 1)]).set Qq [int (max q deep)]).new [.lst (encs L), .lst (encs Tx)] false → mems m' (p + 1) (max q deep) := by
          rintro m' rfl
          have kk : KpX (two P Qq) m1 (((m1.set P [int (p + 1)]).set Qq [int (max q deep)]).new [.lst (encs L), .lst (encs Tx)] false) := (((KpX.refl _ _).set (.inl rfl) _).set (.inr rfl) _).new _ _
          have nP : P ≠ m1.next := by omega
          have nQ : Qq ≠ m1.next := by omega
          refine ⟨⟨⟨by simp; omega, ?_⟩, ⟨by simp; omega, ?_⟩, st1.s.kept kk (by unfold two; omega), st1.t.kept kk (by unfold two; omega), st1.d.kept kk (by unfold two; omega)⟩, ⟨by simp, ?_⟩, kx1.trans kk, by omega⟩
          · simp [nP, d1]
          · simp [nQ]
          · simp
        exact stx _ rfl
      · rintro k s m2 ⟨o, p2, q2, rfl, ho, hsl, h46, hmem, hw⟩ Q' hn he
        obtain ⟨s1, s2, s3, s4, s5, s6, s44, s45⟩ := hsl
        obtain ⟨st2, hb2, kx2, hp2⟩ := hmem
        obtain ⟨bl2, bv2, be2⟩ := hb2
        simp [s45, h46]
        refine goB_split (fun h => ?_) fun h => ?_
        · have ho2 : o < 2 := by simp at h; omega
          have ix : aindexAddr Tryz.prog 161 (.sl m1.next 0 2 1 false (some 2)) (int o) = some (.ptr m1.next (0 + o * 1)) := aindexAddr_sl Tryz.underlying161 tsize43 ho2
          have gx : ([AV.lst (encs L), .lst (encs Tx)] : List AV)[o]? = some (.lst (encs (Ls o))) := by
            rcases (by omega : o = 0 ∨ o = 1) with rfl | rfl <;> simp [Ls]
          simp [s44, h46, ix, be2, gx]
          have hstep : ∀ p q, rem o p q = nxt (wks (Ls o) (deep + 1) p q) fun p q => rem (o + 1) p q := by
            intro p q
            rcases (by omega : o = 0 ∨ o = 1) with rfl | rfl
            · simp [rem, Ls]
            · simp only [rem, Ls, nxt]
              simp
              intro h0
              rw [← h0]
          have hfl : fitss (Ls o) := by
            rcases (by omega : o = 0 ∨ o = 1) with rfl | rfl <;> simp [Ls, hL, hT]
          have hlen : (Ls o).length < 2 ^ 21 := by
            have := alone_fits hfit
            rcases (by omega : o = 0 ∨ o = 1) with rfl | rfl
            · exact this.l
            · exact this.t
          have hsl : sizes (Ls o) ≤ n := by
            rcases (by omega : o = 0 ∨ o = 1) with rfl | rfl <;> simp [Ls, hsz.1, hsz.2]
          refine go_loop (fun k s m' => ∃ (i : Nat) (p' q' : Int), k = (Ls o).length - i ∧ i ≤ (Ls o).length ∧ slots s ∧ s.at 46 = int o ∧ s.at 50 = .lst (encs (Ls o)) ∧ s.at 51 = int (Ls o).length ∧ s.at 52 = int i ∧ mems m' p' q' ∧ wk (.mk K N Sx M L Tx) deep p q = nxt (wks ((Ls o).drop i) (deep + 1) p' q') fun p q => rem (o + 1) p q) (Ls o).length ⟨0, p2, q2, rfl, by omega, by simp [slots, s1, s2, s3, s4, s5, s6, s44, s45], by simp [h46], by simp, by simp, by simp, ⟨st2, ⟨bl2, bv2, be2⟩, kx2, hp2⟩, by rw [List.drop_zero, hw, hstep]⟩ ?_
          rintro k s m3 ⟨i, p3, q3, rfl, hi, ⟨t1, t2, t3, t4, t5, t6, t44, t45⟩, t46, t50, t51, t52, ⟨st3, hb3, kx3, hp3⟩, hw3⟩ Q2 hn2 he2
          simp [t51, t52]
          refine goB_split (fun h => ?_) fun h => ?_
          · have hlt : i < (Ls o).length := by simpa using h
            obtain ⟨x, hx⟩ : ∃ x, (Ls o)[i]? = some x := ⟨_, List.getElem?_eq_getElem hlt⟩
            have hxe : (encs (Ls o))[i]? = some (enc x) := by rw [encs_get, hx]; rfl
            have hxm : x ∈ Ls o := List.mem_of_getElem? hx
            have n3 : m.next ≤ m3.next := kx3.next
            obtain ⟨tl3, tv3, te3⟩ := st3.t
            obtain ⟨dl3, dv3, de3⟩ := st3.d
            have tne : T ≠ m3.next := by omega
            have dne : D ≠ m3.next := by omega
            simp [t50, t52, aindexAddr_lst Tryz.underlying43 tsize56 hxe (enc_cells_length x)]
            have zl : 6 ≤ zeroCells.length := by decide
            have zd : List.drop 6 zeroCells = [] := rfl
            have wd : IntKind.i64.wrap (deep + 1) = deep + 1 := IntWalk.i64_in _ (by omega)
            simp [zl, zd, t1, t2, t3, t4, t5, t6, tne, dne, te3, de3, wd]
            have st4 : St ((m3.new zeroCells false).set m3.next (enc x).cells) P Qq S T D p3 q3 := st3.kp ((Kp.new _ _ _).set (Nat.le_refl _) _)
            refine goH_of (ih x (by have := size_mem hxm; omega) (fits_mem hfl hxm) (deep + 1) p3 q3 _ (by omega) (by omega) st4) ?_
            rintro v m5 ⟨rfl, st5, hp5, kx5⟩
            have hdrop : (Ls o).drop i = x :: (Ls o).drop (i + 1) := by
              rw [List.drop_eq_getElem_cons hlt]
              obtain ⟨h1, h2⟩ := List.getElem?_eq_some_iff.1 hx
              rw [h2]
            rw [hdrop, wks] at hw3
            rcases hwx : wk x (deep + 1) p3 q3 with ⟨e, p4, q4⟩
            rw [hwx] at hw3 st5 hp5
            dsimp only at hw3 st5 hp5
            have kx5' : KpX (two P Qq) m m5 := (kx3.trans (((KpX.refl _ _).new _ _).setn (Nat.le_refl _) _)).trans kx5
            have hb5 : has m5 m1.next [.lst (encs L), .lst (encs Tx)] := (hb3.kp ((Kp.new _ _ _).set (Nat.le_refl _) _)).kept kx5 (by unfold two; omega)
            by_cases he0 : e = 0
            · subst he0
              simp [t52]
              refine hn2 ((Ls o).length - (i + 1)) _ _ (by omega) ⟨i + 1, p4, q4, rfl, hlt, by simp [slots, t1, t2, t3, t4, t5, t6, t44, t45], by simp [t46], by simp [t50], by simp [t51], ?_, ⟨st5, hb5, kx5', by omega⟩, hw3⟩
              rw [at_set_eq, IntWalk.i64_in _ (by omega)]; rfl
            · simp [he0]
              refine he2 _ _ _ (by simp) ?_
              simp
              refine he _ _ _ (by simp) ?_
              simp
              have hw4 : wk (.mk K N Sx M L Tx) deep p q = (e, p4, q4) := by rw [hw3]; simp [nxt, he0]
              refine hQ _ _ _ (leave_sc (.inr rfl) at_set_eq ?_)
              rw [hw4]
              exact ⟨rfl, st5, by dsimp only; omega, kx5'⟩
          · simp
            refine he2 _ _ _ (by simp) ?_
            have hle : i = (Ls o).length := by simp at h hi ⊢; omega
            rw [List.drop_eq_nil_of_le (by omega)] at hw3
            simp [t46]
            refine hn (2 - (o + 1)) _ _ (by omega) ⟨o + 1, p3, q3, rfl, by omega, by simp [slots, t1, t2, t3, t4, t5, t6, t44, t45], ?_, ⟨st3, hb3, kx3, hp3⟩, by rw [hw3]; simp [nxt, wks]⟩
            rw [at_set_eq, IntWalk.i64_in _ (by omega)]; rfl
        · simp
          refine he _ _ _ (by simp) ?_
          simp
          have ho2 : o = 2 := by simp at h; omega
          subst ho2
          refine hQ _ _ _ (leave_sc (.inr rfl) at_set_eq ?_)
          rw [hw]
          exact ⟨rfl, st2, hp2, kx2⟩
end Go.Proofs.YtnhcmcfgemoehaaGreat

/- Checking, size, depth. -/
set_option linter.unusedSimpArgs false
set_option linter.unusedVariables false
set_option linter.unusedSectionVars false
namespace Go.Proofs.YtnhcmcfgemoehaaGreat
set_option maxRecDepth 4000
open Go.V
theorem g43 (d : Dat) (hd : d.fits) : Gives Tryz.prog cf 58 [enc d, .sc .nilFunc] (.tup [int (wk d 1 0 0).2.1, int (wk d 1 0 0).2.2, int (wk d 1 0 0).1]) := by
  refine gives_go Tryz.func58 rfl rfl rfl (by simp [Tryz.f58]) (by simp [Tryz.f58]) fun m Q hQ => ?_
  simp only [Tryz.f58, show cf.keepRes 58 = false from rfl] at hQ ⊢
  simp [Nat.add_assoc]
  refine goH_of (g58 (m.next + 2) (m.next + 3) (m.next + 1) (m.next + 4) (m.next + 5) (by omega) d.size d (Nat.le_refl _) hd 1 0 0 _ (by omega) (by omega) ⟨⟨?_, ?_⟩, ⟨?_, ?_⟩, ⟨?_, ?_⟩, ⟨?_, ?_⟩, ⟨?_, ?_⟩⟩) ?_
  all_goals first
    | (simp [Nat.add_assoc]; done)
    | skip
  rintro v m1 ⟨rfl, st, hp, kx⟩
  obtain ⟨pl, pv, pe⟩ := st.p
  obtain ⟨ql, qv, qe⟩ := st.q
  simp
  refine go_draw_of (by kernel_rfl) ?_
  simp [pe, qe]
  refine goM_nil (by kernel_rfl) ?_
  simp
  refine hQ _ _ _ ⟨.inr rfl, _, rfl, ?_⟩
  simp [oneOf, fzr]
  refine kx.kp ?_ fun id hid => ?_
  · exact (((((((((((Kp.new _ _ _).newr _ _).newr _ _).newr _ _).set (by omega) _).set (by omega) _).newr _ _).set (by omega) _).newr _ _).set (by omega) _))
  · unfold two; omega
def chk (d : Dat) : Int := (wk d 1 0 0).1
def siz (d : Dat) : Int := if chk d = 0 then (wk d 1 0 0).2.1 else 0
theorem g14 (d : Dat) (hd : d.fits) : Gives Tryz.prog cf 35 [enc d] (int (chk d)) := by
  refine gives_go Tryz.func35 rfl rfl rfl (by simp [Tryz.f35]) (by simp [Tryz.f35]) fun m Q hQ => ?_
  simp only [Tryz.f35, show cf.keepRes 35 = false from rfl] at hQ ⊢
  simp
  refine goH_gives (g43 d hd) fun m1 k1 => ?_
  simp
  exact hQ _ _ _ (leave_sc (.inr rfl) at_set_eq ⟨rfl, (Kp.new _ _ _).trans k1⟩)
end Go.Proofs.YtnhcmcfgemoehaaGreat

/- Going through a datum: the reference. -/
set_option linter.unusedSimpArgs false
set_option linter.unusedVariables false
set_option linter.unusedSectionVars false
namespace Go.Proofs.YtnhcmcfgemoehaaGreat
set_option maxRecDepth 4000
open Go.V
/-- What the reference's walk has: the parts, how deep each stands, the error. -/
structure RS where
  ps : List Dat
  ds : List Int
  e : Int
mutual
def rgo : Dat → Int → RS → RS
  | .mk K N S M L T, deep, r =>
    if r.e ≠ 0 then r else if 64 < deep then { r with e := 4 } else if 4096 ≤ (r.ps.length : Int) then { r with e := 3 } else if alone (.mk K N S M L T) = false then { r with e := 20 } else
    rgos T (deep + 1) (rgos L (deep + 1) ⟨r.ps ++ [.mk K N S M L T], r.ds ++ [deep], 0⟩)
def rgos : List Dat → Int → RS → RS
  | [], _, r => r
  | d :: l, deep, r => rgos l deep (rgo d deep r)
end
mutual
theorem rgo_err : ∀ (d : Dat) (deep : Int) (r : RS), r.e ≠ 0 → rgo d deep r = r
  | .mk K N S M L T, deep, r, h => by rw [rgo, if_pos h]
theorem rgos_err : ∀ (l : List Dat) (deep : Int) (r : RS), r.e ≠ 0 → rgos l deep r = r
  | [], deep, r, h => by rw [rgos]
  | d :: l, deep, r, h => by rw [rgos, rgo_err d deep r h, rgos_err l deep r h]
end
/-- The two walks go alike. -/
structure Alike (r r' : RS) (q : Int) (w : Int × Int × Int) : Prop where
  e : r'.e = w.1
  more : ∃ (np : List Dat) (nd : List Int), r'.ps = r.ps ++ np ∧ r'.ds = r.ds ++ nd ∧ np.length = nd.length ∧ w.2.1 = r.ps.length + np.length ∧ w.2.2 = nd.foldl max q
mutual
theorem rgo_wk : ∀ (d : Dat) (deep : Int) (r : RS) (q : Int), r.e = 0 → Alike r (rgo d deep r) q (wk d deep r.ps.length q)
  | .mk K N S M L T, deep, r, q, h => by
    rw [rgo, wk, if_neg (by simp [h])]
    split
    · exact ⟨rfl, [], [], by simp, by simp, rfl, by simp, rfl⟩
    split
    · exact ⟨rfl, [], [], by simp, by simp, rfl, by simp, rfl⟩
    split
    · exact ⟨rfl, [], [], by simp, by simp, rfl, by simp, rfl⟩
    have h1 := rgos_wk L (deep + 1) ⟨r.ps ++ [.mk K N S M L T], r.ds ++ [deep], 0⟩ (max q deep) rfl
    have hl : ((r.ps ++ [Dat.mk K N S M L T]).length : Int) = r.ps.length + 1 := by simp
    dsimp only at h1
    rw [hl] at h1
    generalize rgos L (deep + 1) ⟨r.ps ++ [.mk K N S M L T], r.ds ++ [deep], 0⟩ = r1 at h1
    generalize wks L (deep + 1) ((r.ps.length : Int) + 1) (max q deep) = w1 at h1
    obtain ⟨he, np, nd, hp, hd, hn, hc, hq⟩ := h1
    dsimp only at hp hd hc
    unfold nxt
    split
    · rename_i h0
      have h2 := rgos_wk T (deep + 1) r1 w1.2.2 (by rw [he, h0])
      have hl2 : (r1.ps.length : Int) = w1.2.1 := by rw [hp, hc]; simp; omega
      rw [hl2] at h2
      obtain ⟨he2, np2, nd2, hp2, hd2, hn2, hc2, hq2⟩ := h2
      refine ⟨he2, .mk K N S M L T :: np ++ np2, deep :: nd ++ nd2, by rw [hp2, hp]; simp, by rw [hd2, hd]; simp, by simp [hn, hn2], ?_, ?_⟩
      · rw [hc2, hl2, hc]; simp; omega
      · rw [hq2, hq]; simp
    · rename_i h0
      rw [rgos_err T _ _ (by rw [he]; exact h0)]
      refine ⟨he, .mk K N S M L T :: np, deep :: nd, by rw [hp]; simp, by rw [hd]; simp, by simp [hn], ?_, ?_⟩
      · rw [hc]; simp; omega
      · rw [hq]; simp
theorem rgos_wk : ∀ (l : List Dat) (deep : Int) (r : RS) (q : Int), r.e = 0 → Alike r (rgos l deep r) q (wks l deep r.ps.length q)
  | [], deep, r, q, h => by rw [rgos, wks]; exact ⟨h, [], [], by simp, by simp, rfl, by simp, rfl⟩
  | d :: l, deep, r, q, h => by
    rw [rgos, wks]
    have h1 := rgo_wk d deep r q h
    generalize rgo d deep r = r1 at h1
    generalize wk d deep r.ps.length q = w1 at h1
    obtain ⟨he, np, nd, hp, hd, hn, hc, hq⟩ := h1
    unfold nxt
    split
    · rename_i h0
      have h2 := rgos_wk l deep r1 w1.2.2 (by rw [he, h0])
      have hl2 : (r1.ps.length : Int) = w1.2.1 := by rw [hp, hc]; simp
      rw [hl2] at h2
      obtain ⟨he2, np2, nd2, hp2, hd2, hn2, hc2, hq2⟩ := h2
      refine ⟨he2, np ++ np2, nd ++ nd2, by rw [hp2, hp]; simp, by rw [hd2, hd]; simp, by simp [hn, hn2], ?_, ?_⟩
      · rw [hc2, hl2, hc]; simp; omega
      · rw [hq2, hq]; simp
    · rename_i h0
      rw [rgos_err l _ _ (by rw [he]; exact h0)]
      exact ⟨he, np, nd, hp, hd, hn, hc, hq⟩
end
end Go.Proofs.YtnhcmcfgemoehaaGreat

/- Two data are the same. -/
set_option linter.unusedSimpArgs false
set_option linter.unusedVariables false
set_option linter.unusedSectionVars false
namespace Go.Proofs.YtnhcmcfgemoehaaGreat
set_option maxRecDepth 4000
open Go.V
attribute [local simp] Nat.add_assoc
mutual
def eqb : Dat → Dat → Bool
  | .mk K N S M L T, .mk K' N' S' M' L' T' => decide (K = K') && (decide (N = N') && (decide (S = S') && (decide (M = M') && (eqbs L L' && eqbs T T'))))
def eqbs : List Dat → List Dat → Bool
  | [], [] => true
  | a :: l, b :: r => eqb a b && eqbs l r
  | _, _ => false
end
end Go.Proofs.YtnhcmcfgemoehaaGreat

/- One in memory of its own. -/
set_option linter.unusedSimpArgs false
set_option linter.unusedVariables false
set_option linter.unusedSectionVars false
namespace Go.Proofs.YtnhcmcfgemoehaaGreat
set_option maxRecDepth 4000
open Go.V
attribute [local simp] Nat.add_assoc
mutual
/-- A datum with its marks turned so. -/
def Dat.re (f : List Int → List Int) : Dat → Dat
  | .mk K N S M L T => .mk K N S (f M) (res f L) (res f T)
def res (f : List Int → List Int) : List Dat → List Dat
  | [] => []
  | d :: l => d.re f :: res f l
end
theorem res_map (f : List Int → List Int) : ∀ l, res f l = l.map (Dat.re f)
  | [] => by simp [res]
  | d :: l => by simp [res, res_map f l]
@[simp] theorem res_length (f : List Int → List Int) (l : List Dat) : (res f l).length = l.length := by simp [res_map]
mutual
theorem re_id : ∀ d : Dat, d.re id = d
  | .mk K N S M L T => by simp [Dat.re, res_id L, res_id T]
theorem res_id : ∀ l : List Dat, res id l = l
  | [] => by simp [res]
  | d :: l => by simp [res, re_id d, res_id l]
end
/-- Without marks. -/
def Dat.plain (d : Dat) : Dat := d.re fun _ => []
end Go.Proofs.YtnhcmcfgemoehaaGreat

/- The pairs of data. -/
set_option linter.unusedSimpArgs false
set_option linter.unusedVariables false
set_option linter.unusedSectionVars false
namespace Go.Proofs.YtnhcmcfgemoehaaGreat
set_option maxRecDepth 4000
open Go.V
attribute [local simp] Nat.add_assoc
/-- The zero datum. -/
def Dat.zero : Dat := .mk 0 0 [] [] [] []
theorem enc_zero : enc .zero = .agg [int 0, int 0, .sc (.string ⟨⟨[]⟩⟩), .lst [], .lst [], .lst []] := by simp [Dat.zero, enc, encs]
@[simp] theorem fzr_enc (m : Mem) (d : Dat) : fzr m (enc d) = (enc d, m) := by
  have : fzr m (enc d) = fzv m (enc d) := by cases d; simp only [enc]; exact fzr_agg
  rw [this, fzv_enc]
@[simp] theorem fzs_zero (m : Mem) : fzs m zeroCells = ((enc .zero).cells, m) := by simp [zeroCells, fzs, enc_zero]
@[simp] theorem zero_cells_length : (enc Dat.zero).cells.length = 6 := by simp
end Go.Proofs.YtnhcmcfgemoehaaGreat

/- Going through a datum: the reference, in memory. -/
set_option linter.unusedSimpArgs false
set_option linter.unusedVariables false
set_option linter.unusedSectionVars false
namespace Go.Proofs.YtnhcmcfgemoehaaGreat
set_option maxRecDepth 4000
open Go.V
attribute [local simp] Nat.add_assoc
/-- A slice's object. -/
def owns : AV → Nat → Prop
  | .sl id _ _ _ _ _, k => id = k
  | _, _ => False
theorem owns_emp {n k : Nat} : owns (.emp n) k ↔ False := Iff.rfl
theorem owns_sl {id off len q k : Nat} {ag : Bool} {c : Option Nat} : owns (.sl id off len q ag c) k ↔ id = k := Iff.rfl
/-- What the reference's walk has in memory. -/
structure RSt (m0 m : Mem) (W : Nat) (pv dv : AV) (r : RS) : Prop where
  w : has m W [pv, dv, int r.e]
  p : Acc m0 m 6 true (encs r.ps) pv
  d : Acc m0 m 1 false (r.ds.map int) dv
  kp : Kp m0 m
  wn : m0.next ≤ W
  pw : ¬ owns pv W
  dw : ¬ owns dv W
  pd : ∀ k, owns pv k → ¬ owns dv k
/-- What a call may touch. -/
def tch (W : Nat) (pv dv : AV) (k : Nat) : Prop := k = W ∨ owns pv k ∨ owns dv k
theorem acc_keptX {X : Nat → Prop} {m0 m m' : Mem} {k : Nat} {ag : Bool} {ys : List AV} {v : AV} (h : Acc m0 m k ag ys v) (kx : KpX X m m') (hx : ∀ j, owns v j → ¬ X j) : Acc m0 m' k ag ys v := by
  rcases h with h | ⟨h, id, w, rfl, h2, h3, h4⟩
  · exact .inl h
  · exact .inr ⟨h, id, w, rfl, h2, Nat.lt_of_lt_of_le h3 kx.next, by rw [kx.get id h3 (hx id rfl)]; exact h4⟩
theorem acc_lt {m0 m : Mem} {k : Nat} {ag : Bool} {ys : List AV} {v : AV} (h : Acc m0 m k ag ys v) : ∀ j, owns v j → m0.next ≤ j ∧ j < m.next := by
  rcases h with ⟨_, rfl⟩ | ⟨_, id, w, rfl, h2, h3, h4⟩
  · intro j hj; exact hj.elim
  · rintro j rfl; exact ⟨h2, h3⟩
theorem KpX.mono {X Y : Nat → Prop} {a b : Mem} (h : KpX X a b) (k : ∀ j, j < a.next → X j → Y j) : KpX Y a b := ⟨h.next, fun id hi hn => h.get id hi fun hx => hn (k id hi hx), h.x⟩
theorem KpX.toKp {X : Nat → Prop} {m0 a b : Mem} (h : KpX X a b) (k : Kp m0 a) (hx : ∀ j, X j → m0.next ≤ j) : Kp m0 b := ⟨Nat.le_trans k.next h.next, fun id hi => (h.get id (Nat.lt_of_lt_of_le hi k.next) (fun x => by have := hx id x; omega)).trans (k.get id hi), k.x.trans k.next h.x⟩
theorem acc_app2 {T : TypeId} {m m' m2 : Mem} {k : Nat} {ag : Bool} {ys zs zs' : List AV} {v : AV} (h : Acc m m' k ag ys v) (hy : okAll k ys = true) (el : ElemOf Tryz.prog T k ag) (hz : zs ≠ []) (ho : okAll k zs = true) (hf : fzx Tryz.prog T m' zs = (zs', m2)) (hm2 : Kp m' m2) (hb : ys.length + zs.length ≤ 2 ^ 26) :
    ∃ m3, aappend Tryz.prog T v none (some zs) m' = some (.sl m2.next 0 (ys.length + zs.length) k ag none, m3) ∧ m3.next = m2.next + 1 ∧ (∃ w, m3.get m2.next = some (.cells (flat (ys ++ zs')) false w)) ∧ (∀ j, j < m2.next → ¬ owns v j → m3.get j = m2.get j) ∧ XK m' m3 := by
  rcases h with ⟨rfl, rfl⟩ | ⟨h, id, w, rfl, h2, h3, h4⟩
  · have e := aapp_emp (n := 0) (by omega) el hz ho hf (by simp at hb; omega)
    refine ⟨m2.new (flat zs') false, by simpa using e, by simp, ⟨m2.clock + 1, by simp⟩, fun j hj _ => ?_, hm2.x.same rfl rfl⟩
    rw [Mem.get_new, if_neg (by omega)]
  · have h5 : m2.get id = some (.cells (flat ys) false w) := by rw [hm2.get id h3]; exact h4
    refine ⟨_, aapp_row el hz ho hf h5 (flat_length hy) hb, by simp, ⟨m2.clock + 1, by simp [flat_append]⟩, fun j hj hn => ?_, hm2.x.same rfl rfl⟩
    rw [Mem.get_new, if_neg (by simp; omega), Mem.get_kill, if_neg (fun e => hn e.symm)]
theorem ofConst_zero : ofConst (.agg #[.int .i64 0, .int .i64 0, .string ⟨⟨[]⟩⟩, .slice none 0 0, .slice none 0 0, .slice none 0 0]) = .agg zeroCells := by kernel_rfl
theorem rgos_snoc : ∀ (a : List Dat) (x : Dat) (deep : Int) (r : RS), rgos (a ++ [x]) deep r = rgo x deep (rgos a deep r)
  | [], x, deep, r => by simp [rgos]
  | d :: a, x, deep, r => by simp [rgos, rgos_snoc a x]
/-- Between the children: the walk's state, the datum's box, what stays. -/
structure Mid (m0 m m' : Mem) (W : Nat) (pv dv : AV) (bx : List AV) (r : RS) : Prop where
  ex : ∃ pv' dv', RSt m0 m' W pv' dv' r ∧ (∀ k, owns pv' k → m.next < k) ∧ (∀ k, owns dv' k → m.next < k)
  len : r.ps.length ≤ 4096 ∧ r.ds.length = r.ps.length
  box : has m' m.next bx
  kx : KpX (tch W pv dv) m m'
theorem Mid.wph {P : Program} {cfg : Cfg} {fn : Fn} {args : List AV} {m0 m m' : Mem} {W : Nat} {pv dv : AV} {bx : List AV} {r : RS} (h : Mid m0 m m' W pv dv bx r) (hWm : W < m.next) {r' : RS}
    (hc : ∀ pv' dv', RSt m0 m' W pv' dv' r → V.wph P cfg fn args m' fun v m2 => v = .tup [] ∧ (r'.ps.length ≤ 4096 ∧ r'.ds.length = r'.ps.length) ∧ ∃ pv2 dv2, RSt m0 m2 W pv2 dv2 r' ∧ KpX (tch W pv' dv') m' m2 ∧ (∀ k, owns pv2 k → owns pv' k ∨ m'.next ≤ k) ∧ (∀ k, owns dv2 k → owns dv' k ∨ m'.next ≤ k)) :
    V.wph P cfg fn args m' fun v m2 => v = .tup [] ∧ Mid m0 m m2 W pv dv bx r' := by
  obtain ⟨pv', dv', h1, h2, h3⟩ := h.ex
  refine wph_mono (hc pv' dv' h1) ?_
  rintro v m2 ⟨rfl, hl, pv2, dv2, c1, c2, c3, c4⟩
  refine ⟨rfl, ?_⟩
  have hlt := h.box.1
  refine ⟨⟨pv2, dv2, c1, fun k hk => ?_, fun k hk => ?_⟩, hl, h.box.kept c2 ?_, ?_⟩
  · rcases c3 k hk with h | h
    · exact h2 k h
    · omega
  · rcases c4 k hk with h | h
    · exact h3 k h
    · omega
  · rintro (e | e | e)
    · omega
    · have := h2 _ e; omega
    · have := h3 _ e; omega
  · refine ⟨Nat.le_trans h.kx.next c2.next, fun id hi hn => ?_, h.kx.x.trans h.kx.next c2.x⟩
    rw [c2.get id (Nat.lt_of_lt_of_le hi h.kx.next) ?_, h.kx.get id hi hn]
    rintro (e | e | e)
    · exact hn (.inl e)
    · have := h2 _ e; omega
    · have := h3 _ e; omega
def GoesAt (n : Nat) : Prop := ∀ (d : Dat), d.size ≤ n → d.fits → ∀ (deep : Int) (r : RS) (m0 m : Mem) (W : Nat) (pv dv : AV), 0 ≤ deep ∧ deep ≤ 1000 → r.ps.length ≤ 4096 ∧ r.ds.length = r.ps.length → RSt m0 m W pv dv r →
    wph Tryz.prog cf (.func 143) [.ptr W 0, enc d, int deep] m fun v m' => v = .tup [] ∧ ((rgo d deep r).ps.length ≤ 4096 ∧ (rgo d deep r).ds.length = (rgo d deep r).ps.length) ∧ ∃ pv' dv', RSt m0 m' W pv' dv' (rgo d deep r) ∧ KpX (tch W pv dv) m m' ∧ (∀ k, owns pv' k → owns pv k ∨ m.next ≤ k) ∧ (∀ k, owns dv' k → owns dv k ∨ m.next ≤ k)
set_option maxHeartbeats 4000000 in
theorem goes_at : ∀ n, GoesAt n := by
  intro n
  induction n with
  | zero => intro d hs; cases d; simp [Dat.size] at hs
  | succ n ih =>
    intro d hs hfit deep r m0 m W pv dv hdeep hlen hst
    obtain ⟨K, N, Sx, M, L, Tx⟩ := d
    refine wph_go Tryz.func143 rfl rfl (by simp [Tryz.f143]) (by simp [Tryz.f143]) fun Q hQ => ?_
    simp only [Tryz.f143, show cf.keepRes 143 = false from rfl, show cf.keepArgs 143 = false from rfl] at hQ ⊢
    simp only [enc]
    obtain ⟨wl, wv, we⟩ := hst.w
    have wn : W ≠ m.next := by omega
    have wn' : m.next ≠ W := by omega
    -- what an error leaves
    have err : ∀ (x : Int) (s4 : Sl) (m4 : Mem) (e : Ex), (e = .normal ∨ e = .ret) → KpX (fun k => k = W) m m4 → has m4 W [pv, dv, int x] → rgo (.mk K N Sx M L Tx) deep r = { r with e := x } → Q e s4 m4 := by
      intro x s4 m4 e he kx hw hr
      refine hQ _ _ _ ⟨he, _, rfl, ?_⟩
      rw [hr]
      refine ⟨rfl, hlen, pv, dv, ⟨hw, acc_keptX hst.p kx ?_, acc_keptX hst.d kx ?_, kx.toKp hst.kp (fun j e => by rw [e]; exact hst.wn), hst.wn, hst.pw, hst.dw, hst.pd⟩, kx.mono (fun j _ e => .inl e), fun k h => .inl h, fun k h => .inl h⟩
      · rintro j hj rfl; exact hst.pw hj
      · rintro j hj rfl; exact hst.dw hj
    have kx0 : ∀ (cs : List AV), KpX (fun k => k = W) m (m.new cs false) := fun cs => (KpX.refl _ m).new _ _
    by_cases e0 : r.e = 0
    · simp [we, wn, e0]
      by_cases e1 : 64 < deep
      · simp [we, wn, e1, e0]
        exact err 4 _ _ _ (.inr rfl) ((kx0 _).set (id := W) rfl _) ⟨by simp; omega, by simp⟩ (by simp [rgo, e0, e1])
      have hlp : ∀ (m' : Mem), abuiltin Tryz.prog .len #[43] 3 [pv] m' = some (int r.ps.length, m') := by
        intro m'
        rcases hst.p with ⟨h1, rfl⟩ | ⟨h, id, w, rfl, h2, h3, h4⟩
        · have : r.ps = [] := by cases hp : r.ps with | nil => rfl | cons a b => rw [hp] at h1; simp [encs] at h1
          rw [this]; exact alen_emp Tryz.underlying43
        · rw [alen_sl Tryz.underlying43]; simp
      by_cases e2 : (4096 : Int) ≤ r.ps.length
      · simp [we, wn, e1, e2, hlp, e0]
        exact err 3 _ _ _ (.inr rfl) ((kx0 _).set (id := W) rfl _) ⟨by simp; omega, by simp⟩ (by simp [rgo, e0, e1]; omega)
      have c71 := g71 (alone_fits hfit)
      simp only [enc] at c71
      simp [we, wn, e0, e1, e2, hlp, c71.go]
      cases ha : alone (.mk K N Sx M L Tx) with
      | false =>
        simp [we, wn, e0]
        exact err 20 _ _ _ (.inr rfl) ((kx0 _).set (id := W) rfl _) ⟨by simp; omega, by simp⟩ (by simp [rgo, e0, e1, ha]; omega)
      | true =>
        simp
        refine go_draw_of (by kernel_rfl) ?_
        simp [we, wn, hlp, ofConst_zero, abuildSlice, fillAt, zeros]
        have hp6 : r.ps.length ≤ 4095 := by omega
        generalize hbx : [AV.sc (Value.int IntKind.i64 K), AV.sc (Value.int IntKind.i64 N), AV.sc (Value.string { data := { toList := Sx } }), AV.lst (List.map int M), AV.lst (encs L), AV.lst (encs Tx)] = bx
        have k1 : Kp m ((m.new bx false).new (enc .zero).cells false) := by simp
        have hsrc := src_one (m := (m.new bx false).new (enc .zero).cells false) (id := m.next + 1) (c := some 1) (k := 6) (ag := true) (x := enc .zero) (w := m.clock + 2) (f := false) rfl (by simp) (by simp) (by simp)
        obtain ⟨m3, h1, h2, ⟨w3, h3⟩, h4, h4x⟩ := acc_app2 (hst.p.kp k1) (okAll_encs _) el43 (zs := [enc .zero]) (zs' := [enc .zero]) (List.cons_ne_nil _ _) (by simp [okAll_cons, okAll_nil]) (by simp [fzvs]) (.refl _) (by simp; omega)
        simp at h1 h2 h3 h4
        have gW : m3.get W = some (.cells [pv, dv, int r.e] false wv) := by rw [h4 W (by omega) hst.pw]; simp [wn, we]; omega
        have gB : m3.get m.next = some (.cells bx false (m.clock + 1)) := by rw [h4 m.next (by omega) (fun h => by have := (acc_lt hst.p _ h).2; omega)]; simp
        have ix : aindexAddr Tryz.prog 43 (.sl (m.next + 2) 0 (r.ps.length + 1) 6 true none) (int r.ps.length) = some (.ptr (m.next + 2) (0 + r.ps.length * 6)) := aindexAddr_sl Tryz.underlying43 tsize56 (by omega)
        have hfl : (flat (encs r.ps)).length = r.ps.length * 6 := by rw [flat_length (okAll_encs _)]; simp
        have w2 : W ≠ m.next + 2 := by omega
        have hbl : bx.length = 6 := by rw [← hbx]; rfl
        simp [abuiltin, hsrc, h1, ix, h3, flat_append, flat_cons, flat_nil, hfl, hbl, gW, w2]
        have w2' : m.next + 2 ≠ W := by omega
        have w1 : W ≠ m.next + 1 := by omega
        refine goM_of (l := [(3, 6), (4, 6), (9, 12)]) (by kernel_rfl) (?_ : List.all _ _ = true) ?_
        · simp [metAt, metOk, rank, objOf, verKept, Region.wanted, Mem.ver, we, wn, w1, w2']
        simp
        have hdr : List.drop (r.ps.length * 6 + 6) (flat (encs r.ps) ++ (enc Dat.zero).cells) = [] := List.drop_eq_nil_of_le (by simp [hfl])
        rw [hdr, List.append_nil]
        obtain ⟨m4, hm4⟩ : ∃ m4, m4 = (m3.set (m.next + 2) (flat (encs r.ps) ++ bx)).set W [AV.sl (m.next + 2) 0 (r.ps.length + 1) 6 true none, dv, int r.e] := ⟨_, rfl⟩
        rw [← hm4]
        have g4W : m4.get W = some (.cells [AV.sl (m.next + 2) 0 (r.ps.length + 1) 6 true none, dv, int r.e] false (m3.clock + 2)) := by rw [hm4]; simp
        have g4P : m4.get (m.next + 2) = some (.cells (flat (encs r.ps) ++ bx) false (m3.clock + 1)) := by rw [hm4]; simp [w2']
        have g4B : m4.get m.next = some (.cells bx false (m.clock + 1)) := by rw [hm4]; simp [wn', gB]
        have n4 : m4.next = m.next + 3 := by rw [hm4]; simp [h2]
        have kx4 : KpX (fun k => k = W ∨ owns pv k) m m4 := by
          refine ⟨by omega, fun id hi hn => ?_, by rw [hm4]; exact (k1.x.trans k1.next h4x).same rfl rfl⟩
          have a1 : id ≠ W := fun e => hn (.inl e)
          have a2 : id ≠ m.next + 2 := by omega
          have a3 : id ≠ m.next + 1 := by omega
          have a4 : id ≠ m.next := by omega
          rw [hm4]
          simp [a1, a2]
          rw [h4 id (by omega) fun e => hn (.inr e)]
          simp [a3, a4]
        clear hm4 h1 h2 h3 h4 gW gB hsrc k1 hdr
        have accd := acc_keptX hst.d kx4 fun j hj e => by
          rcases e with rfl | e
          · exact hst.dw hj
          · exact hst.pd j e hj
        have src2 := src_one (m := m4.new [int deep] false) (id := m4.next) (c := some 1) (k := 1) (ag := false) (x := int deep) (w := m4.clock + 1) (f := false) rfl (by simp) (by simp) (by simp)
        obtain ⟨m6, q1, q2, ⟨w6, q3⟩, q4, q4x⟩ := acc_app2 (accd.kp (.new m4 [int deep] false)) (okAll_ints _) el54 (zs := [int deep]) (zs' := [int deep]) (List.cons_ne_nil _ _) (by simp [okAll_cons, okAll_nil]) (by simp [fzvs]) (.refl _) (by simp; omega)
        simp [n4] at q1 q2 q3 q4 src2
        have w3' : W ≠ m.next + 3 := by omega
        have w4' : W ≠ m.next + 4 := by omega
        have q6W : m6.get W = some (.cells [AV.sl (m.next + 2) 0 (r.ps.length + 1) 6 true none, dv, int r.e] false (m3.clock + 2)) := by rw [q4 W (by omega) hst.dw]; simp [w3', g4W]
        simp [abuildSlice, fillAt, zeros, n4, src2, q1, q6W]
        obtain ⟨m7, hm7⟩ : ∃ m7, m7 = m6.set W [AV.sl (m.next + 2) 0 (r.ps.length + 1) 6 true none, AV.sl (m.next + 4) 0 (r.ds.length + 1) 1 false none, int r.e] := ⟨_, rfl⟩
        rw [← hm7]
        obtain ⟨r1, hr1⟩ : ∃ r1 : RS, r1 = ⟨r.ps ++ [.mk K N Sx M L Tx], r.ds ++ [deep], 0⟩ := ⟨_, rfl⟩
        have wd : IntKind.i64.wrap (deep + 1) = deep + 1 := IntWalk.i64_in _ (by omega)
        have bx4 : bx[4]? = some (.lst (encs L)) := by rw [← hbx]; rfl
        have bx5 : bx[5]? = some (.lst (encs Tx)) := by rw [← hbx]; rfl
        have hft := alone_fits hfit
        have hL : fitss L := by rw [Dat.fits] at hfit; exact hfit.2.1
        have hTx : fitss Tx := by rw [Dat.fits] at hfit; exact hfit.2.2
        have hsz : sizes L ≤ n ∧ sizes Tx ≤ n := by rw [Dat.size] at hs; omega
        have lL := hft.l
        have lT := hft.t
        have g7P : ∃ v, m7.get (m.next + 2) = some (.cells (flat (encs r.ps) ++ bx) false v) := by
          refine ⟨m3.clock + 1, ?_⟩
          rw [hm7, Mem.get_set, if_neg w2', q4 (m.next + 2) (by omega) (fun h => by have := (acc_lt hst.d _ h).2; omega), if_neg (by omega)]
          exact g4P
        have g7B : ∃ v, m7.get m.next = some (.cells bx false v) := by
          refine ⟨m.clock + 1, ?_⟩
          rw [hm7, Mem.get_set, if_neg wn', q4 m.next (by omega) (fun h => by have := (acc_lt hst.d _ h).2; omega), if_neg (by omega)]
          exact g4B
        have g7D : ∃ v, m7.get (m.next + 4) = some (.cells (flat (r.ds.map int ++ [int deep])) false v) := by
          refine ⟨w6, ?_⟩
          rw [hm7, Mem.get_set, if_neg (by omega)]
          exact q3
        obtain ⟨vP, g7P⟩ := g7P
        obtain ⟨vD, g7D⟩ := g7D
        have n7 : m7.next = m.next + 5 := by rw [hm7]; simp [q2]
        have kx7 : KpX (tch W pv dv) m m7 := by
          refine ⟨by omega, fun id hi hn => ?_, by rw [hm7]; exact ((kx4.x.trans kx4.next (Kp.new m4 [int deep] false).x).trans (Nat.le_trans kx4.next (Kp.new m4 [int deep] false).next) q4x).same rfl rfl⟩
          have a1 : id ≠ W := fun e => hn (.inl e)
          rw [hm7, Mem.get_set, if_neg a1, q4 id (by omega) (fun h => hn (.inr (.inr h))), if_neg (by omega)]
          exact kx4.get id hi fun h => h.elim (fun e => a1 e) fun h => hn (.inr (.inl h))
        have mid6 : Mid m0 m m7 W pv dv bx r1 := by
          have ebx : (enc (.mk K N Sx M L Tx)).cells = bx := by rw [← hbx]; simp [enc]
          refine ⟨⟨AV.sl (m.next + 2) 0 (r.ps.length + 1) 6 true none, AV.sl (m.next + 4) 0 (r.ds.length + 1) 1 false none, ⟨⟨by omega, m6.clock + 1, by rw [hm7, hr1, ← e0]; simp⟩, .inr ⟨?_, m.next + 2, vP, ?_, by have := hst.kp.next; omega, by omega, ?_⟩, .inr ⟨?_, m.next + 4, vD, ?_, by have := hst.kp.next; omega, by omega, ?_⟩, kx7.toKp hst.kp ?_, hst.wn, ?_, ?_, ?_⟩, ?_, ?_⟩, ?_, ⟨by omega, g7B⟩, kx7⟩
          · rw [hr1, encs_map]; simp
          · rw [hr1, encs_map]; simp
          · rw [g7P, hr1]
            simp only [encs_map, List.map_append, flat_append, List.map_cons, List.map_nil, flat_cons, flat_nil, ebx, List.append_nil]
          · rw [hr1]; simp
          · rw [hr1]; simp
          · rw [g7D, hr1]; simp
          · rintro j (rfl | h | h)
            · exact hst.wn
            · exact (acc_lt hst.p _ h).1
            · exact (acc_lt hst.d _ h).1
          · intro h; simp only [owns] at h; omega
          · intro h; simp only [owns] at h; omega
          · intro k h h'; simp only [owns] at h h'; omega
          · intro k h; simp only [owns] at h; omega
          · intro k h; simp only [owns] at h; omega
          · rw [hr1]; simp; omega
        clear g7P g7B g7D kx7 hm7 q1 q2 q3 q4 src2 q6W accd kx4 g4W g4P g4B n4 n7
        have sl6 := True.intro
        refine go_count 6 L.length (fun i s m' => s.at 0 = .ptr W 0 ∧ s.at 2 = int deep ∧ s.at 4 = .ptr m.next 0 ∧ Mid m0 m m' W pv dv bx (rgos (L.take i) (deep + 1) r1)) (by simp) (by omega) ⟨by simp [sl6], by simp [sl6], by simp [sl6], by simpa [rgos] using mid6⟩ ?_
        clear mid6
        rintro i s6 m6 hi e6 ⟨e0', e2', e4', hmid⟩ hs' hw Q6 hn he
        clear hs'
        obtain ⟨bl, bv, be⟩ := hmid.box
        simp [e6, e4', be, bx4]
        refine goB_split (fun h => ?_) fun h => ?_
        · have hlt : i < L.length := by simpa using h
          obtain ⟨x, hx⟩ : ∃ x, L[i]? = some x := ⟨_, List.getElem?_eq_getElem hlt⟩
          have hxe : (encs L)[i]? = some (enc x) := by rw [encs_get, hx]; rfl
          have hxm := List.mem_of_getElem? hx
          have := size_mem hxm
          simp [e6, e0', e2', e4', be, bx4, aindexAddr_lst Tryz.underlying43 tsize56 hxe (enc_cells_length x), wd]
          obtain ⟨pv', dv', hst', _, _⟩ := hmid.ex
          have ht : L.take (i + 1) = L.take i ++ [x] := by
            obtain ⟨h1, h2⟩ := List.getElem?_eq_some_iff.1 hx
            rw [List.take_succ_eq_append_getElem h1, h2]
          refine goH_of (Mid.wph hmid wl (fun pv' dv' hst' => ih x (by omega) (fits_mem hL hxm) (deep + 1) _ m0 m6 W pv' dv' (by omega) hmid.len hst')) ?_
          rintro v m2 ⟨rfl, hm2⟩
          simp [e6, hw]
          refine hn _ _ hlt (by simp) ⟨by simp [e0'], by simp [e2'], by simp [e4'], ?_⟩
          rw [ht, rgos_snoc]
          exact hm2
        · simp
          refine he _ _ _ (by simp) ?_
          have hle : i = L.length := by simp at h hi ⊢; omega
          subst hle
          rw [List.take_length] at hmid
          simp
          have mid7 := hmid
          have sl7 := And.intro e0' (And.intro e2' e4')
          refine go_count 7 Tx.length (fun i s m' => s.at 0 = .ptr W 0 ∧ s.at 2 = int deep ∧ s.at 4 = .ptr m.next 0 ∧ Mid m0 m m' W pv dv bx (rgos (Tx.take i) (deep + 1) (rgos L (deep + 1) r1))) (by simp) (by omega) ⟨by simp [sl7], by simp [sl7], by simp [sl7], by simpa [rgos] using mid7⟩ ?_
          clear mid7
          rintro i s7 m7 hi e7 ⟨e0', e2', e4', hmid⟩ hs' hw Q7 hn he
          clear hs'
          obtain ⟨bl, bv, be⟩ := hmid.box
          simp [e7, e4', be, bx5]
          refine goB_split (fun h => ?_) fun h => ?_
          · have hlt : i < Tx.length := by simpa using h
            obtain ⟨x, hx⟩ : ∃ x, Tx[i]? = some x := ⟨_, List.getElem?_eq_getElem hlt⟩
            have hxe : (encs Tx)[i]? = some (enc x) := by rw [encs_get, hx]; rfl
            have hxm := List.mem_of_getElem? hx
            have := size_mem hxm
            simp [e7, e0', e2', e4', be, bx5, aindexAddr_lst Tryz.underlying43 tsize56 hxe (enc_cells_length x), wd]
            obtain ⟨pv', dv', hst', _, _⟩ := hmid.ex
            have ht : Tx.take (i + 1) = Tx.take i ++ [x] := by
              obtain ⟨h1, h2⟩ := List.getElem?_eq_some_iff.1 hx
              rw [List.take_succ_eq_append_getElem h1, h2]
            refine goH_of (Mid.wph hmid wl (fun pv' dv' hst' => ih x (by omega) (fits_mem hTx hxm) (deep + 1) _ m0 m7 W pv' dv' (by omega) hmid.len hst')) ?_
            rintro v m2 ⟨rfl, hm2⟩
            simp [e7, hw]
            refine hn _ _ hlt (by simp) ⟨by simp [e0'], by simp [e2'], by simp [e4'], ?_⟩
            rw [ht, rgos_snoc]
            exact hm2
          · simp
            refine he _ _ _ (by simp) ?_
            have hle : i = Tx.length := by simp at h hi ⊢; omega
            subst hle
            rw [List.take_length] at hmid
            simp
            refine hQ _ _ _ ⟨.inl rfl, _, rfl, ?_⟩
            have hr : rgo (.mk K N Sx M L Tx) deep r = rgos Tx (deep + 1) (rgos L (deep + 1) r1) := by
              rw [rgo, if_neg (by simp [e0]), if_neg e1, if_neg e2, if_neg (by simp [ha]), hr1]
            rw [hr]
            obtain ⟨pv', dv', f1, f2, f3⟩ := hmid.ex
            exact ⟨rfl, hmid.len, pv', dv', f1, hmid.kx, fun k hk => .inr (by have := f2 k hk; omega), fun k hk => .inr (by have := f3 k hk; omega)⟩
    · simp [we, wn, e0]
      exact err r.e _ _ _ (.inr rfl) (kx0 _) ⟨by simp; omega, by simp [wn, we]⟩ (rgo_err _ _ _ e0)
end Go.Proofs.YtnhcmcfgemoehaaGreat

/- Putting together, and taking apart. -/
set_option linter.unusedSimpArgs false
set_option linter.unusedVariables false
set_option linter.unusedSectionVars false
namespace Go.Proofs.YtnhcmcfgemoehaaGreat
set_option maxRecDepth 4000
open Go.V
attribute [local simp] Nat.add_assoc
theorem nxt_zero {r : Int × Int × Int} {f : Int → Int → Int × Int × Int} (h : (nxt r f).1 = 0) : r.1 = 0 ∧ (f r.2.1 r.2.2).1 = 0 := by
  unfold nxt at h
  split at h
  · exact ⟨‹_›, h⟩
  · exact absurd h ‹_›
/-- The halves of a pair, and an error. -/
def hlv : Dat → Dat × Dat × Int
  | .mk K N S M L T =>
    if chk (.mk K N S M L T) = 0 then
      if K = 6 ∨ K = 7 then
        match L with
        | [] => (.zero, .zero, 6)
        | l :: r => if K = 7 ∧ r = [] then (l, T.headD .zero, 0) else (l, .mk K 0 [] [] r T, 0)
      else (.zero, .zero, 6)
    else (.zero, .zero, chk (.mk K N S M L T))
end Go.Proofs.YtnhcmcfgemoehaaGreat

/- Putting together. -/
set_option linter.unusedSimpArgs false
set_option linter.unusedVariables false
set_option linter.unusedSectionVars false
namespace Go.Proofs.YtnhcmcfgemoehaaGreat
set_option maxRecDepth 4000
open Go.V
attribute [local simp] Nat.add_assoc
mutual
theorem wk_ok : ∀ (d : Dat) (deep p q : Int), (wk d deep p q).1 = 0 → (wk d deep p q).2.1 = p + d.size ∧ p + d.size ≤ 4096
  | .mk K N S M L T, deep, p, q, h => by
    rw [wk] at h ⊢
    split at h
    · simp at h
    rw [if_neg ‹_›]
    split at h
    · simp at h
    rw [if_neg ‹_›]
    split at h
    · simp at h
    rw [if_neg ‹_›]
    obtain ⟨h1, h2⟩ := nxt_zero h
    have a := wks_ok L _ _ _ h1
    have b := wks_ok T _ _ _ h2
    unfold nxt
    rw [if_pos h1, Dat.size]
    dsimp only
    omega
theorem wks_ok : ∀ (l : List Dat) (deep p q : Int), (wks l deep p q).1 = 0 → (wks l deep p q).2.1 = p + sizes l ∧ (sizes l = 0 ∨ p + sizes l ≤ 4096)
  | [], deep, p, q, h => by simp [wks, sizes]
  | d :: l, deep, p, q, h => by
    rw [wks] at h ⊢
    obtain ⟨h1, h2⟩ := nxt_zero h
    have a := wk_ok d _ _ _ h1
    have b := wks_ok l _ _ _ h2
    unfold nxt
    rw [if_pos h1, sizes]
    dsimp only
    omega
end
theorem chk_size {d : Dat} (h : chk d = 0) : d.size ≤ 4096 := by have := (wk_ok d 1 0 0 h).2; omega
end Go.Proofs.YtnhcmcfgemoehaaGreat

/- How many parts a list has, and how deep it is: the plain law. -/
set_option linter.unusedSimpArgs false
set_option linter.unusedVariables false
set_option linter.unusedSectionVars false
namespace Go.Proofs.YtnhcmcfgemoehaaGreat
set_option maxRecDepth 4000
mutual
def good : Dat → Bool
  | .mk K N S M L T => alone (.mk K N S M L T) && (goods L && goods T)
def goods : List Dat → Bool
  | [] => true
  | d :: l => good d && goods l
end
mutual
/-- How deep it goes, wherever. -/
def dpt : Dat → Int
  | .mk _ _ _ _ L T => 1 + max (dpts L) (dpts T)
def dpts : List Dat → Int
  | [] => 0
  | d :: l => max (dpt d) (dpts l)
end
mutual
theorem dpt_pos : ∀ d : Dat, 1 ≤ dpt d
  | .mk _ _ _ _ L T => by have := dpts_pos L; rw [dpt]; omega
theorem dpts_pos : ∀ l : List Dat, 0 ≤ dpts l
  | [] => by rw [dpts]; omega
  | d :: l => by have := dpts_pos l; rw [dpts]; omega
end
mutual
/-- Nothing is wrong. -/
theorem wk_yes : ∀ (d : Dat) (deep p q : Int), good d = true → p + d.size ≤ 4096 → deep + dpt d - 1 ≤ 64 → wk d deep p q = (0, p + d.size, max q (deep + dpt d - 1))
  | .mk K N S M L T, deep, p, q, hg, hp, hd => by
    rw [good] at hg
    simp only [Bool.and_eq_true] at hg
    rw [Dat.size] at hp
    rw [dpt] at hd
    have dl := dpts_pos L
    have dt := dpts_pos T
    rw [wk, if_neg (by omega), if_neg (by omega), if_neg (by simp [hg.1]), wks_yes L _ _ _ hg.2.1 (by omega) (by omega)]
    simp only [nxt, if_true]
    rw [wks_yes T _ _ _ hg.2.2 (by omega) (by omega), Dat.size, dpt]
    have e1 : p + 1 + (sizes L : Int) + sizes T = p + ((1 + (sizes L + sizes T) : Nat) : Int) := by omega
    rw [e1]
    refine Prod.ext rfl (Prod.ext rfl ?_)
    dsimp only
    split <;> split <;> rename_i h1 h2 <;> rcases L with _ | ⟨l, L⟩ <;> rcases T with _ | ⟨t, T⟩ <;> simp_all [dpts] <;> omega
theorem wks_yes : ∀ (l : List Dat) (deep p q : Int), goods l = true → p + sizes l ≤ 4096 → deep + dpts l - 1 ≤ 64 → wks l deep p q = (0, p + sizes l, if l = [] then q else max q (deep + dpts l - 1))
  | [], deep, p, q, hg, hp, hd => by simp [wks, sizes]
  | d :: l, deep, p, q, hg, hp, hd => by
    rw [goods] at hg
    simp only [Bool.and_eq_true] at hg
    rw [sizes] at hp
    rw [dpts] at hd
    have dl := dpts_pos l
    have dd := dpt_pos d
    rw [wks, wk_yes d _ _ _ hg.1 (by omega) (by omega)]
    simp only [nxt, if_true]
    rw [wks_yes l _ _ _ hg.2 (by omega) (by omega), sizes, dpts]
    refine Prod.ext rfl (Prod.ext ?_ ?_)
    · dsimp only; omega
    · dsimp only
      have ne : ¬ (d :: l = []) := by simp
      rw [if_neg ne]
      split
      · rename_i e; subst e; simp only [dpts]; omega
      · omega
end
mutual
/-- All may be by itself: if there is an error, there are too many, or it is too deep. -/
theorem wk_bad : ∀ (d : Dat) (deep p q : Int), good d = true → (wk d deep p q).1 = 0 ∨ (wk d deep p q).1 = 3 ∨ (wk d deep p q).1 = 4
  | .mk K N S M L T, deep, p, q, hg => by
    rw [good] at hg
    simp only [Bool.and_eq_true] at hg
    rw [wk]
    split
    · simp
    split
    · simp
    rw [if_neg (by simp [hg.1])]
    unfold nxt
    split
    · exact wks_bad T _ _ _ hg.2.2
    · exact wks_bad L _ _ _ hg.2.1
theorem wks_bad : ∀ (l : List Dat) (deep p q : Int), goods l = true → (wks l deep p q).1 = 0 ∨ (wks l deep p q).1 = 3 ∨ (wks l deep p q).1 = 4
  | [], deep, p, q, hg => by simp [wks]
  | d :: l, deep, p, q, hg => by
    rw [goods] at hg
    simp only [Bool.and_eq_true] at hg
    rw [wks]
    unfold nxt
    split
    · exact wks_bad l _ _ _ hg.2
    · exact wk_bad d _ _ _ hg.1
end
mutual
/-- What may be is such. -/
theorem wk_good : ∀ (d : Dat) (deep p q : Int), (wk d deep p q).1 = 0 → good d = true ∧ deep + dpt d - 1 ≤ 64
  | .mk K N S M L T, deep, p, q, h => by
    rw [wk] at h
    split at h
    · simp at h
    split at h
    · simp at h
    split at h
    · simp at h
    rename_i h1 h2 h3
    obtain ⟨a, b⟩ := nxt_zero h
    have hL := wks_good L _ _ _ a
    have hT := wks_good T _ _ _ b
    have dl := dpts_pos L
    have dt := dpts_pos T
    rw [good, dpt]
    refine ⟨by simp at h3; simp [h3, hL.1, hT.1], ?_⟩
    omega
theorem wks_good : ∀ (l : List Dat) (deep p q : Int), (wks l deep p q).1 = 0 → goods l = true ∧ (dpts l = 0 ∨ deep + dpts l - 1 ≤ 64)
  | [], deep, p, q, h => by simp [goods, dpts]
  | d :: l, deep, p, q, h => by
    rw [wks] at h
    obtain ⟨a, b⟩ := nxt_zero h
    have hd := wk_good d _ _ _ a
    have hl := wks_good l _ _ _ b
    rw [goods, dpts]
    refine ⟨by simp [hd.1, hl.1], ?_⟩
    omega
end
theorem chk_good {d : Dat} (h : chk d = 0) : good d = true ∧ d.size ≤ 4096 ∧ dpt d ≤ 64 := by
  have := wk_good d 1 0 0 h
  exact ⟨this.1, chk_size h, by omega⟩
end Go.Proofs.YtnhcmcfgemoehaaGreat

/- Memory that stays but for some objects; slices that grow. -/
set_option linter.unusedSimpArgs false
set_option linter.unusedVariables false
set_option linter.unusedSectionVars false
namespace Go.V
open Go.RowKit
variable {P : Program}
/-- An object's cells. -/
def has (m : Mem) (id : Nat) (cs : List AV) : Prop := id < m.next ∧ ∃ v, m.get id = some (.cells cs false v)
/-- What stays but for two objects. -/
structure KpX (X : Nat → Prop) (m m' : Mem) : Prop where
  next : m.next ≤ m'.next
  get : ∀ id, id < m.next → ¬ X id → m'.get id = m.get id
  x : XK m m'
theorem KpX.refl (X : Nat → Prop) (m : Mem) : KpX X m m := ⟨Nat.le_refl _, fun _ _ _ => rfl, .refl m⟩
theorem KpX.trans {X : Nat → Prop} {a b c : Mem} (h : KpX X a b) (k : KpX X b c) : KpX X a c := ⟨Nat.le_trans h.next k.next, fun id hi hx => (k.get id (Nat.lt_of_lt_of_le hi h.next) hx).trans (h.get id hi hx), h.x.trans h.next k.x⟩
theorem KpX.of {X : Nat → Prop} {a b : Mem} (h : Kp a b) : KpX X a b := ⟨h.next, fun id hi _ => h.get id hi, h.x⟩
theorem KpX.set {X : Nat → Prop} {a b : Mem} (h : KpX X a b) {id : Nat} (hx : X id) (cs : List AV) : KpX X a (b.set id cs) := ⟨h.next, fun j hj hn => by rw [Mem.get_set, if_neg (by rintro rfl; exact hn hx)]; exact h.get j hj hn, h.x.same rfl rfl⟩
theorem KpX.setn {X : Nat → Prop} {a b : Mem} (h : KpX X a b) {id : Nat} (hx : a.next ≤ id) (cs : List AV) : KpX X a (b.set id cs) := ⟨h.next, fun j hj hn => by rw [Mem.get_set, if_neg (by omega)]; exact h.get j hj hn, h.x.same rfl rfl⟩
theorem KpX.new {X : Nat → Prop} {a b : Mem} (h : KpX X a b) (cs : List AV) (f : Bool) : KpX X a (b.new cs f) := h.trans (.of (.new _ _ _))
theorem has.kept {X : Nat → Prop} {m m' : Mem} {id : Nat} {cs : List AV} (h : has m id cs) (k : KpX X m m') (hx : ¬ X id) : has m' id cs := ⟨Nat.lt_of_lt_of_le h.1 k.next, by rw [k.get id h.1 hx]; exact h.2⟩
theorem has.kp {m m' : Mem} {id : Nat} {cs : List AV} (h : has m id cs) (k : Kp m m') : has m' id cs := ⟨Nat.lt_of_lt_of_le h.1 k.next, by rw [k.get id h.1]; exact h.2⟩
theorem KpX.kp {X : Nat → Prop} {a b c : Mem} (h : KpX X b c) (k : Kp a b) (hx : ∀ id, id < a.next → ¬ X id) : Kp a c := ⟨Nat.le_trans k.next h.next, fun id hi => (h.get id (Nat.lt_of_lt_of_le hi k.next) (hx id hi)).trans (k.get id hi), k.x.trans k.next h.x⟩
/-- A slice's object. -/
def owns : AV → Nat → Prop
  | .sl id _ _ _ _ _, k => id = k
  | _, _ => False
theorem owns_emp {n k : Nat} : owns (.emp n) k ↔ False := Iff.rfl
theorem owns_sl {id off len q k : Nat} {ag : Bool} {c : Option Nat} : owns (.sl id off len q ag c) k ↔ id = k := Iff.rfl
theorem acc_keptX {X : Nat → Prop} {m0 m m' : Mem} {k : Nat} {ag : Bool} {ys : List AV} {v : AV} (h : Acc m0 m k ag ys v) (kx : KpX X m m') (hx : ∀ j, owns v j → ¬ X j) : Acc m0 m' k ag ys v := by
  rcases h with h | ⟨h, id, w, rfl, h2, h3, h4⟩
  · exact .inl h
  · exact .inr ⟨h, id, w, rfl, h2, Nat.lt_of_lt_of_le h3 kx.next, by rw [kx.get id h3 (hx id rfl)]; exact h4⟩
theorem acc_lt {m0 m : Mem} {k : Nat} {ag : Bool} {ys : List AV} {v : AV} (h : Acc m0 m k ag ys v) : ∀ j, owns v j → m0.next ≤ j ∧ j < m.next := by
  rcases h with ⟨_, rfl⟩ | ⟨_, id, w, rfl, h2, h3, h4⟩
  · intro j hj; exact hj.elim
  · rintro j rfl; exact ⟨h2, h3⟩
theorem KpX.mono {X Y : Nat → Prop} {a b : Mem} (h : KpX X a b) (k : ∀ j, j < a.next → X j → Y j) : KpX Y a b := ⟨h.next, fun id hi hn => h.get id hi fun hx => hn (k id hi hx), h.x⟩
theorem KpX.toKp {X : Nat → Prop} {m0 a b : Mem} (h : KpX X a b) (k : Kp m0 a) (hx : ∀ j, X j → m0.next ≤ j) : Kp m0 b := ⟨Nat.le_trans k.next h.next, fun id hi => (h.get id (Nat.lt_of_lt_of_le hi k.next) (fun x => by have := hx id x; omega)).trans (k.get id hi), k.x.trans k.next h.x⟩
theorem acc_app2 {T : TypeId} {m m' m2 : Mem} {k : Nat} {ag : Bool} {ys zs zs' : List AV} {v : AV} (h : Acc m m' k ag ys v) (hy : okAll k ys = true) (el : ElemOf P T k ag) (hz : zs ≠ []) (ho : okAll k zs = true) (hf : fzx P T m' zs = (zs', m2)) (hm2 : Kp m' m2) (hb : ys.length + zs.length ≤ 2 ^ 26) :
    ∃ m3, aappend P T v none (some zs) m' = some (.sl m2.next 0 (ys.length + zs.length) k ag none, m3) ∧ m3.next = m2.next + 1 ∧ (∃ w, m3.get m2.next = some (.cells (flat (ys ++ zs')) false w)) ∧ (∀ j, j < m2.next → ¬ owns v j → m3.get j = m2.get j) ∧ XK m' m3 := by
  rcases h with ⟨rfl, rfl⟩ | ⟨h, id, w, rfl, h2, h3, h4⟩
  · have e := aapp_emp (n := 0) (by omega) el hz ho hf (by simp at hb; omega)
    refine ⟨m2.new (flat zs') false, by simpa using e, by simp, ⟨m2.clock + 1, by simp⟩, fun j hj _ => ?_, hm2.x.same rfl rfl⟩
    rw [Mem.get_new, if_neg (by omega)]
  · have h5 : m2.get id = some (.cells (flat ys) false w) := by rw [hm2.get id h3]; exact h4
    refine ⟨_, aapp_row el hz ho hf h5 (flat_length hy) hb, by simp, ⟨m2.clock + 1, by simp [flat_append]⟩, fun j hj hn => ?_, hm2.x.same rfl rfl⟩
    rw [Mem.get_new, if_neg (by simp; omega), Mem.get_kill, if_neg (fun e => hn e.symm)]
structure KpC (X : Nat → Prop) (m m' : Mem) : Prop where
  next : m.next ≤ m'.next
  get : ∀ id, id < m.next → ¬ X id → m'.get id = m.get id
  x : ∀ id, id < m.next → ¬ X id → m'.loop id = m.loop id ∧ m'.map id = m.map id
theorem KpC.refl (X : Nat → Prop) (m : Mem) : KpC X m m := ⟨Nat.le_refl _, fun _ _ _ => rfl, fun _ _ _ => ⟨rfl, rfl⟩⟩
theorem KpC.trans {X : Nat → Prop} {a b c : Mem} (h : KpC X a b) (k : KpC X b c) : KpC X a c := ⟨Nat.le_trans h.next k.next, fun id hi hx => (k.get id (Nat.lt_of_lt_of_le hi h.next) hx).trans (h.get id hi hx), fun id hi hx => ⟨(k.x id (Nat.lt_of_lt_of_le hi h.next) hx).1.trans (h.x id hi hx).1, (k.x id (Nat.lt_of_lt_of_le hi h.next) hx).2.trans (h.x id hi hx).2⟩⟩
theorem KpC.of {X : Nat → Prop} {a b : Mem} (h : KpX X a b) : KpC X a b := ⟨h.next, h.get, fun id hi _ => h.x id hi⟩
theorem KpC.mono {X Y : Nat → Prop} {a b : Mem} (h : KpC X a b) (k : ∀ j, X j → Y j) : KpC Y a b := ⟨h.next, fun id hi hx => h.get id hi fun x => hx (k id x), fun id hi hx => h.x id hi fun x => hx (k id x)⟩
theorem has.kc {X : Nat → Prop} {m m' : Mem} {id : Nat} {cs : List AV} (h : has m id cs) (k : KpC X m m') (hx : ¬ X id) : has m' id cs := ⟨Nat.lt_of_lt_of_le h.1 k.next, by rw [k.get id h.1 hx]; exact h.2⟩
theorem KpC.after {X Y : Nat → Prop} {m m1 m2 : Mem} (h : Kp m m1) (k : KpC Y m1 m2) (hf : ∀ i, i < m.next → Y i → X i) : KpC X m m2 :=
  ⟨Nat.le_trans h.next k.next, fun id hi hx => (k.get id (Nat.lt_of_lt_of_le hi h.next) fun y => hx (hf id hi y)).trans (h.get id hi), fun id hi hx => ⟨(k.x id (Nat.lt_of_lt_of_le hi h.next) fun y => hx (hf id hi y)).1.trans (h.x id hi).1, (k.x id (Nat.lt_of_lt_of_le hi h.next) fun y => hx (hf id hi y)).2.trans (h.x id hi).2⟩⟩
theorem acc_keptC {X : Nat → Prop} {m0 m m' : Mem} {k : Nat} {ag : Bool} {ys : List AV} {v : AV} (h : Acc m0 m k ag ys v) (kx : KpC X m m') (hx : ∀ j, owns v j → ¬ X j) : Acc m0 m' k ag ys v := by
  rcases h with h | ⟨h, id, w, rfl, h2, h3, h4⟩
  · exact .inl h
  · exact .inr ⟨h, id, w, rfl, h2, Nat.lt_of_lt_of_le h3 kx.next, by rw [kx.get id h3 (hx id rfl)]; exact h4⟩
/-- Loops and maps that came later. -/
theorem Kp.loops {m a b : Mem} (h : Kp m a) (hn : a.next ≤ b.next) (hg : ∀ i, b.get i = a.get i) (hl : ∀ i, i < m.next → b.loop i = a.loop i) (hm : ∀ i, i < m.next → b.map i = a.map i) : Kp m b :=
  ⟨Nat.le_trans h.next hn, fun i hi => (hg i).trans (h.get i hi), fun i hi => ⟨(hl i hi).trans (h.x i hi).1, (hm i hi).trans (h.x i hi).2⟩⟩
theorem Kp.newLoop {m a : Mem} (h : Kp m a) (c : LCode) : Kp m (a.newLoop c) := h.loops (by simp) (fun i => by simp) (fun i hi => by have := h.next; simp; omega) fun i hi => by simp
theorem Kp.setLoop {m a : Mem} (h : Kp m a) {id : Nat} (hi : m.next ≤ id) (st : LoopState) (p : Option Code) (c : LCode) : Kp m (a.setLoop id st p c) := h.loops (by simp) (fun i => by simp) (fun i hj => by simp; omega) fun i hi => by simp
theorem Kp.killLoop {m a : Mem} (h : Kp m a) {id : Nat} (hi : m.next ≤ id) : Kp m (a.killLoop id) := h.loops (by simp) (fun i => by simp) (fun i hj => by simp; omega) fun i hi => by simp
theorem Mem.map_setMap {m : Mem} {id i : Nat} {es : List (Value × AV × Nat)} {ck : Nat} : (m.setMap id es ck).map i = if i = id then some ⟨es, ck, m.clock + 1⟩ else m.map i := by simp [Mem.setMap, Mem.map]
theorem Mem.map_newMap {m : Mem} {i : Nat} : m.newMap.map i = if i = m.next then some ⟨[], 0, m.clock + 1⟩ else m.map i := by simp [Mem.newMap, Mem.map]
theorem Mem.get_setMap {m : Mem} {id i : Nat} {es : List (Value × AV × Nat)} {ck : Nat} : (m.setMap id es ck).get i = m.get i := Eq.trans rfl rfl
theorem Mem.get_newMap {m : Mem} {i : Nat} : m.newMap.get i = m.get i := Eq.trans rfl rfl
theorem Mem.loop_setMap {m : Mem} {id i : Nat} {es : List (Value × AV × Nat)} {ck : Nat} : (m.setMap id es ck).loop i = m.loop i := Eq.trans rfl rfl
theorem Mem.loop_newMap {m : Mem} {i : Nat} : m.newMap.loop i = m.loop i := Eq.trans rfl rfl
theorem Mem.next_setMap {m : Mem} {id : Nat} {es : List (Value × AV × Nat)} {ck : Nat} : (m.setMap id es ck).next = m.next := Eq.trans rfl rfl
theorem Mem.next_newMap {m : Mem} : m.newMap.next = m.next + 1 := Eq.trans rfl rfl
theorem Mem.clock_setMap {m : Mem} {id : Nat} {es : List (Value × AV × Nat)} {ck : Nat} : (m.setMap id es ck).clock = m.clock + 1 := Eq.trans rfl rfl
theorem Mem.clock_newMap {m : Mem} : m.newMap.clock = m.clock + 1 := Eq.trans rfl rfl
attribute [simp] Mem.map_setMap Mem.map_newMap Mem.get_setMap Mem.get_newMap Mem.loop_setMap Mem.loop_newMap Mem.next_setMap Mem.next_newMap Mem.clock_setMap Mem.clock_newMap
theorem Kp.newMap {m a : Mem} (h : Kp m a) : Kp m a.newMap := h.loops (by simp) (fun i => by simp) (fun i hi => by simp) fun i hi => by have := h.next; simp; omega
theorem Kp.setMap {m a : Mem} (h : Kp m a) {id : Nat} (hi : m.next ≤ id) (es : List (Value × AV × Nat)) (ck : Nat) : Kp m (a.setMap id es ck) := h.loops (by simp) (fun i => by simp) (fun i hi => by simp) fun i hj => by simp; omega
theorem Kp.newLoop_eq {m a : Mem} {c : LCode} (hi : m.next ≤ a.next) : Kp m (a.newLoop c) = Kp m a := by
  refine propext ⟨fun h => ⟨hi, fun j hj => by simpa using h.get j hj, fun j hj => ?_⟩, fun h => h.newLoop c⟩
  have q := h.x j hj
  have e : j ≠ a.next := by omega
  simpa [e] using q
theorem Kp.setLoop_eq {m a : Mem} {id : Nat} {st : LoopState} {p : Option Code} {c : LCode} (hi : m.next ≤ id) : Kp m (a.setLoop id st p c) = Kp m a := by
  refine propext ⟨fun h => ⟨(by simpa using h.next), fun j hj => by simpa using h.get j hj, fun j hj => ?_⟩, fun h => h.setLoop hi st p c⟩
  have q := h.x j hj
  have e : j ≠ id := by omega
  simpa [e] using q
theorem Kp.killLoop_eq {m a : Mem} {id : Nat} (hi : m.next ≤ id) : Kp m (a.killLoop id) = Kp m a := by
  refine propext ⟨fun h => ⟨(by simpa using h.next), fun j hj => by simpa using h.get j hj, fun j hj => ?_⟩, fun h => h.killLoop hi⟩
  have q := h.x j hj
  have e : j ≠ id := by omega
  simpa [e] using q
theorem Kp.newMap_eq {m a : Mem}  (hi : m.next ≤ a.next) : Kp m (a.newMap) = Kp m a := by
  refine propext ⟨fun h => ⟨hi, fun j hj => by simpa using h.get j hj, fun j hj => ?_⟩, fun h => h.newMap⟩
  have q := h.x j hj
  have e : j ≠ a.next := by omega
  simpa [e] using q
theorem Kp.setMap_eq {m a : Mem} {id : Nat} {es : List (Value × AV × Nat)} {ck : Nat} (hi : m.next ≤ id) : Kp m (a.setMap id es ck) = Kp m a := by
  refine propext ⟨fun h => ⟨(by simpa using h.next), fun j hj => by simpa using h.get j hj, fun j hj => ?_⟩, fun h => h.setMap hi es ck⟩
  have q := h.x j hj
  have e : j ≠ id := by omega
  simpa [e] using q
attribute [simp] Kp.newLoop_eq Kp.setLoop_eq Kp.killLoop_eq Kp.newMap_eq Kp.setMap_eq
theorem KpC.toKp {X : Nat → Prop} {m0 a b : Mem} (h : KpC X a b) (k : Kp m0 a) (hx : ∀ j, X j → m0.next ≤ j) : Kp m0 b :=
  ⟨Nat.le_trans k.next h.next, fun id hi => (h.get id (Nat.lt_of_lt_of_le hi k.next) (fun x => by have := hx id x; omega)).trans (k.get id hi), fun id hi => have q := h.x id (Nat.lt_of_lt_of_le hi k.next) (fun x => by have := hx id x; omega); ⟨q.1.trans (k.x id hi).1, q.2.trans (k.x id hi).2⟩⟩
section
variable {cfg : Cfg} {N : Nat} {Q : Ex → Sl → Mem → Prop} {d : Option Tmp} {T : TypeId} {p : String} {af : Array Edge} {gd : Option (Nat × Bool)} {k : List It} {s : Sl} {m : Mem}
theorem goS_makeMap {t : TypeId} {r : Option Operand} : goS P cfg N Q ⟨d, .makeMap t r, T, p, af, gd⟩ k s m = goR P cfg N Q (amakeMap P t (r.map (ev s)) m) d k s := Eq.trans rfl rfl
theorem goU_makeMap {t : TypeId} {r : Option Operand} : goU P cfg N Q ⟨d, .makeMap t r, T, p, af, gd⟩ k s m = goR P cfg N Q (amakeMap P t (r.map (ev s)) m) d k s := Eq.trans rfl rfl
theorem goS_lookup {t : TypeId} {x y : Operand} {ok : Bool} : goS P cfg N Q ⟨d, .lookup t x y ok, T, p, af, gd⟩ k s m = goR P cfg N Q ((alookup P t (ev s x) (ev s y) ok m).map (·, m)) d k s := Eq.trans rfl rfl
theorem goU_lookup {t : TypeId} {x y : Operand} {ok : Bool} : goU P cfg N Q ⟨d, .lookup t x y ok, T, p, af, gd⟩ k s m = goR P cfg N Q ((alookup P t (ev s x) (ev s y) ok m).map (·, m)) d k s := Eq.trans rfl rfl
theorem goS_mapUpdate {t : TypeId} {x y z : Operand} : goS P cfg N Q ⟨d, .mapUpdate t x y z, T, p, af, gd⟩ k s m = goR P cfg N Q ((amapUpdate P t (ev s x) (ev s y) (ev s z) m).map (undefV, ·)) d k s := Eq.trans rfl rfl
theorem goU_mapUpdate {t : TypeId} {x y z : Operand} : goU P cfg N Q ⟨d, .mapUpdate t x y z, T, p, af, gd⟩ k s m = goR P cfg N Q ((amapUpdate P t (ev s x) (ev s y) (ev s z) m).map (undefV, ·)) d k s := Eq.trans rfl rfl
theorem goS_insert {t : TypeId} {x y z : Operand} : goS P cfg N Q ⟨d, .insert t x y z, T, p, af, gd⟩ k s m = goR P cfg N Q ((amapUpdate P t (ev s x) (ev s y) (ev s z) m).map (undefV, ·)) d k s := Eq.trans rfl rfl
theorem goU_insert {t : TypeId} {x y z : Operand} : goU P cfg N Q ⟨d, .insert t x y z, T, p, af, gd⟩ k s m = goR P cfg N Q ((amapUpdate P t (ev s x) (ev s y) (ev s z) m).map (undefV, ·)) d k s := Eq.trans rfl rfl
theorem goS_mapEntry {t : TypeId} {x y : Operand} : goS P cfg N Q ⟨d, .mapEntry t x y, T, p, af, gd⟩ k s m = goR P cfg N Q (amapEntry P t (ev s x) (ev s y) m) d k s := Eq.trans rfl rfl
theorem goU_mapEntry {t : TypeId} {x y : Operand} : goU P cfg N Q ⟨d, .mapEntry t x y, T, p, af, gd⟩ k s m = goR P cfg N Q (amapEntry P t (ev s x) (ev s y) m) d k s := Eq.trans rfl rfl
theorem goS_entryStore {t : TypeId} {x y z : Operand} : goS P cfg N Q ⟨d, .entryStore t x y z, T, p, af, gd⟩ k s m = goR P cfg N Q ((aentryStore (ev s x) (ev s y) (ev s z) m).map (undefV, ·)) d k s := Eq.trans rfl rfl
theorem goU_entryStore {t : TypeId} {x y z : Operand} : goU P cfg N Q ⟨d, .entryStore t x y z, T, p, af, gd⟩ k s m = goR P cfg N Q ((aentryStore (ev s x) (ev s y) (ev s z) m).map (undefV, ·)) d k s := Eq.trans rfl rfl
attribute [simp] goU_makeMap goU_lookup goU_mapUpdate goU_insert goU_mapEntry goU_entryStore goS_makeMap goS_lookup goS_mapUpdate goS_insert goS_mapEntry goS_entryStore
end
theorem amakeMap_none {t : TypeId} {kt : TypeId × TypeId} (h : tmap P t = some kt) {m : Mem} : amakeMap P t none m = some (.mp m.next, m.newMap) := by unfold amakeMap; rw [h]
/-- Maps with texts as keys. -/
theorem findNow_str {k : List UInt8} : ∀ (ks : List (List UInt8)) (i : Nat), Instr.findNow .string (.string ⟨⟨k⟩⟩) (ks.map fun x => ⟨.string ⟨⟨x⟩⟩, undef, 0⟩) i = some ((ks.findIdx? fun x => decide (x = k)).map fun j => (j + i, undef))
  | [], i => rfl
  | x :: ks, i => by
    simp only [List.map_cons, Instr.findNow, List.findIdx?_cons]
    have h : Instr.sameNow .string (.string ⟨⟨k⟩⟩) (.string ⟨⟨x⟩⟩) = some (decide (x = k)) := by
      show some ((⟨⟨k⟩⟩ : ByteArray) == ⟨⟨x⟩⟩) = _
      have e : ((⟨⟨k⟩⟩ : ByteArray) == ⟨⟨x⟩⟩) = ((⟨k⟩ : Array UInt8) == ⟨x⟩) := rfl
      rw [e]
      congr 1
      rw [Bool.eq_iff_iff]
      simp only [beq_iff_eq, decide_eq_true_eq, Array.mk.injEq]
      exact eq_comm
    rw [h]
    by_cases e : x = k
    · simp [e]
    · simp only [e, decide_false, findNow_str ks (i + 1)]
      cases ks.findIdx? fun x => decide (x = k) with
      | none => simp
      | some j => simp; omega
theorem afind_str {T : TypeId} (hT : P.underlying T = some .string) (k : List UInt8) (ks : List (List UInt8)) : afind P T (.string ⟨⟨k⟩⟩) (ks.map fun x => .string ⟨⟨x⟩⟩) = some (ks.findIdx? fun x => decide (x = k)) := by
  have e : (ks.map fun x => Value.string ⟨⟨x⟩⟩).map (fun x => (⟨x, undef, 0⟩ : MapEntry)) = ks.map fun x => ⟨.string ⟨⟨x⟩⟩, undef, 0⟩ := by rw [List.map_map]; rfl
  unfold afind
  rw [hT]
  dsimp only
  rw [e, findNow_str]
  cases ks.findIdx? fun x => decide (x = k) <;> simp
theorem akey_str {T : TypeId} (hT : P.underlying T = some .string) (e : Bool) (k : List UInt8) : akey P T e (.sc (.string ⟨⟨k⟩⟩)) = some (.string ⟨⟨k⟩⟩) := by
  have h : pureRun P (Instr.checkKey e 10000 T (.string ⟨⟨k⟩⟩)) = some () := by
    rw [show (10000 : Nat) = 9999 + 1 from rfl]
    unfold Instr.checkKey
    rw [pureRun_bind, pureRun_underlying hT]
    rfl
  unfold akey
  simp [plain, h]
/-- A look into a map of texts. -/
theorem alookup_str {t kt et : TypeId} (h : tmap P t = some (kt, et)) (hk : P.underlying kt = some .string) {m : Mem} {id : Nat} {M : AMap} (hM : m.map id = some M) {ks : List (List UInt8)} (hs : M.es.map (·.1) = ks.map fun x => .string ⟨⟨x⟩⟩) (k : List UInt8) (ok : Bool) :
    alookup P t (.mp id) (.sc (.string ⟨⟨k⟩⟩)) ok m = (match ks.findIdx? fun x => decide (x = k) with
      | some i => (match M.es[i]? with | some (_, v, _) => some (if ok then .tup [v, .sc (.bool true)] else v) | Option.none => Option.none)
      | Option.none => (tzero P et).map fun z => if ok then .tup [z, .sc (.bool false)] else z) := by
  unfold alookup amapOf
  simp only [h, hM, Option.map_some, akey_str hk, hs, afind_str hk]
  cases ks.findIdx? fun x => decide (x = k) <;> rfl
/-- A text that was not there. -/
theorem amapUpdate_new {t kt et : TypeId} (h : tmap P t = some (kt, et)) (hk : P.underlying kt = some .string) {m : Mem} {id : Nat} {M : AMap} (hM : m.map id = some M) {ks : List (List UInt8)} (hs : M.es.map (·.1) = ks.map fun x => .string ⟨⟨x⟩⟩) {k : List UInt8} (hn : (ks.findIdx? fun x => decide (x = k)) = none) (v : AV) :
    amapUpdate P t (.mp id) (.sc (.string ⟨⟨k⟩⟩)) v m = some (m.setMap id (M.es ++ [(.string ⟨⟨k⟩⟩, v, M.ck)]) (M.ck + 1)) := by
  unfold amapUpdate
  simp only [h, hM, akey_str hk, hs, afind_str hk, hn]
/-- A struct of two plain fields, held against another one. -/
theorem equal2 {T : TypeId} {f1 f2 : Field} (hT : P.underlying T = some (.struct #[f1, f2])) (n1 : f1.name ≠ "_") (n2 : f2.name ≠ "_") (o1 : f1.offset = 0) (o2 : f2.offset = 1) (s1 : tagg P f1.type = some false) (s2 : tagg P f2.type = some false)
    (hs : P.stoodInHeld T = false) {x1 x2 y1 y2 : Value} {b1 b2 : Bool} (h1 : ∀ d, pureRun P (Op.equalIn (d + 1) f1.type x1 y1) = some b1) (h2 : ∀ d, pureRun P (Op.equalIn (d + 1) f2.type x2 y2) = some b2) :
    pureRun P (Op.equal T (.agg #[x1, x2]) (.agg #[y1, y2])) = some (b1 && b2) := by
  unfold Op.equal
  rw [show Op.maxDepth = (Op.maxDepth - 2) + 1 + 1 from rfl]
  rw [Op.equalIn]
  rw [pureRun_bind, pureRun_underlying hT]
  simp only [Option.bind_some]
  have hp : ∀ (t : TypeId) (cs : Array Value) (off : Nat) (v : Value), tagg P t = some false → cs[off]? = some v → pureRun P (part t cs off) = some v := by
    intro t cs off v ht hc
    unfold tagg at ht
    cases hu : P.underlying t with
    | none => rw [hu] at ht; cases ht
    | some d =>
      unfold part isAgg
      rw [pureRun_bind, pureRun_bind, pureRun_underlying hu]
      rw [hu] at ht
      cases d <;> simp at ht <;> simp [pureRun_pure, hc, pureRun_bind]
  have q1 := h1 (Op.maxDepth - 2)
  have q2 := h2 (Op.maxDepth - 2)
  rw [pureRun_bind, pureRun_program]
  simp only [Option.bind_some, hs, Bool.false_eq_true, if_false]
  have c1 := hp f1.type #[x1, x2] 0 x1 s1 rfl
  have c2 := hp f1.type #[y1, y2] 0 y1 s1 rfl
  have c3 := hp f2.type #[x1, x2] 1 x2 s2 rfl
  have c4 := hp f2.type #[y1, y2] 1 y2 s2 rfl
  cases b1 <;> cases b2 <;> simp [pureRun_bind, pureRun_pure, List.forIn_toArray, n1, n2, o1, o2, c1, c2, c3, c4, q1, q2]
theorem equalIn_int {T : TypeId} {k q : IntKind} (hT : P.underlying T = some (.int k)) {a b : Int} (d : Nat) : pureRun P (Op.equalIn (d + 1) T (.int q a) (.int q b)) = some (decide (a = b)) := by
  rw [Op.equalIn, pureRun_bind, pureRun_underlying hT]
  simp only [Option.bind_some]
  simp [pureRun_pure]
  rw [Bool.eq_iff_iff]; simp
/-- Structs of two plain fields. -/
structure Two (P : Program) (T : TypeId) (t1 t2 : TypeId) : Prop where
  two : ∃ f1 f2 : Field, P.underlying T = some (.struct #[f1, f2]) ∧ f1.name ≠ "_" ∧ f2.name ≠ "_" ∧ f1.offset = 0 ∧ f2.offset = 1 ∧ f1.type = t1 ∧ f2.type = t2
  t1 : tagg P t1 = some false
  t2 : tagg P t2 = some false
  hs : P.stoodInHeld T = false
  hg : P.eqGuardType P.depth T = false
theorem abin_two {T t1 t2 : TypeId} (h : Two P T t1 t2) {xo yo : Operand} {x1 x2 y1 y2 : Value} {b1 b2 : Bool} (h1 : ∀ d, pureRun P (Op.equalIn (d + 1) t1 x1 y1) = some b1) (h2 : ∀ d, pureRun P (Op.equalIn (d + 1) t2 x2 y2) = some b2) :
    abin P .eql T xo yo (.agg [.sc x1, .sc x2]) (.agg [.sc y1, .sc y2]) = some (.sc (.bool (b1 && b2))) ∧ abin P .neq T xo yo (.agg [.sc x1, .sc x2]) (.agg [.sc y1, .sc y2]) = some (.sc (.bool !(b1 && b2))) := by
  obtain ⟨f1, f2, hT, n1, n2, o1, o2, e1, e2⟩ := h.two
  have h0 := equal2 hT n1 n2 o1 o2 (by rw [e1]; exact h.t1) (by rw [e2]; exact h.t2) h.hs (x1 := x1) (x2 := x2) (y1 := y1) (y2 := y2) (by rw [e1]; exact h1) (by rw [e2]; exact h2)
  constructor
  · simp [abin, plain, scals, scal, eqGuard, pureRun_bind, pureRun_program, pureRun_pure, h.hg, binOp, pureRun_map, h0]
  · simp [abin, plain, scals, scal, eqGuard, pureRun_bind, pureRun_program, pureRun_pure, h.hg, binOp, pureRun_map, h0]
end Go.V

/- What is used again and again: what stays, what is told of a call, slices of one's own. -/
set_option linter.unusedSimpArgs false
set_option linter.unusedVariables false
set_option linter.unusedSectionVars false
namespace Go.V
variable {P : Program} {cfg : Cfg}
/-- What is handed in becomes lists that never change. -/
theorem eh_fz {f : FuncId} {fn : Func} {c : Code} {args args0 : List AV} {m0 m m' : Mem} {r : AV} (hf : P.funcs[f]? = some fn) (hb : fn.body = some c) (hk : cfg.hook f = none) (hka : cfg.keepArgs f = false) (hz0 : fzvs m0 args0 = (args, m)) (hz : fzvs m args = (args, m)) (h : EH P cfg (.func f) args m r m') : EH P cfg (.func f) args0 m0 r m' := by
  obtain ⟨n, hn⟩ := h.one
  have hlen : args.length = args0.length := by rw [← fzvs_length args0 m0, hz0]
  refine .of (n := n) ?_
  cases n with
  | zero => cases hn
  | succ n =>
    simp only [afn, hk, abody, hf, hb, hka, Bool.false_eq_true, if_false, hz0, hz, hlen] at hn ⊢
    exact hn
theorem wph_fz {f : FuncId} {fn : Func} {c : Code} {args args0 : List AV} {m0 m : Mem} {K : AV → Mem → Prop} (hf : P.funcs[f]? = some fn) (hb : fn.body = some c) (hk : cfg.hook f = none) (hka : cfg.keepArgs f = false) (hz0 : fzvs m0 args0 = (args, m)) (hz : fzvs m args = (args, m)) (h : wph P cfg (.func f) args m K) : wph P cfg (.func f) args0 m0 K := by
  obtain ⟨v, m', h1, h2⟩ := h
  exact ⟨v, m', eh_fz hf hb hk hka hz0 hz h1, h2⟩
/-- A part whose end is told by facts. -/
theorem goB_cut {P : Program} {cfg : Cfg} {N : Nat} {Q : Ex → Sl → Mem → Prop} {t : Bool} {x y : Code} {k : List It} {s : Sl} {m : Mem} (A : Sl → Mem → Prop) (h1 : t = true → ∀ k', (∀ s' m', A s' m' → go P cfg N Q k' s' m') → go P cfg N Q (.code x :: k') s m) (h2 : t = false → ∀ k', (∀ s' m', A s' m' → go P cfg N Q k' s' m') → go P cfg N Q (.code y :: k') s m) (h3 : ∀ s' m', A s' m' → go P cfg N Q k s' m') : goB P cfg N Q (.sc (.bool t)) x y k s m := by
  cases t
  · exact h2 rfl k h3
  · exact h1 rfl k h3
end Go.V
namespace Go.Proofs.YtnhcmcfgemoehaaGreat
set_option maxRecDepth 4000
open Go.V
attribute [local simp] Nat.add_assoc
structure KpC (X : Nat → Prop) (m m' : Mem) : Prop where
  next : m.next ≤ m'.next
  get : ∀ id, id < m.next → ¬ X id → m'.get id = m.get id
  x : ∀ id, id < m.next → ¬ X id → m'.loop id = m.loop id ∧ m'.map id = m.map id
theorem KpC.refl (X : Nat → Prop) (m : Mem) : KpC X m m := ⟨Nat.le_refl _, fun _ _ _ => rfl, fun _ _ _ => ⟨rfl, rfl⟩⟩
theorem KpC.trans {X : Nat → Prop} {a b c : Mem} (h : KpC X a b) (k : KpC X b c) : KpC X a c := ⟨Nat.le_trans h.next k.next, fun id hi hx => (k.get id (Nat.lt_of_lt_of_le hi h.next) hx).trans (h.get id hi hx), fun id hi hx => ⟨(k.x id (Nat.lt_of_lt_of_le hi h.next) hx).1.trans (h.x id hi hx).1, (k.x id (Nat.lt_of_lt_of_le hi h.next) hx).2.trans (h.x id hi hx).2⟩⟩
theorem KpC.of {X : Nat → Prop} {a b : Mem} (h : KpX X a b) : KpC X a b := ⟨h.next, h.get, fun id hi _ => h.x id hi⟩
theorem KpC.mono {X Y : Nat → Prop} {a b : Mem} (h : KpC X a b) (k : ∀ j, X j → Y j) : KpC Y a b := ⟨h.next, fun id hi hx => h.get id hi fun x => hx (k id x), fun id hi hx => h.x id hi fun x => hx (k id x)⟩
theorem has.kc {X : Nat → Prop} {m m' : Mem} {id : Nat} {cs : List AV} (h : has m id cs) (k : KpC X m m') (hx : ¬ X id) : has m' id cs := ⟨Nat.lt_of_lt_of_le h.1 k.next, by rw [k.get id h.1 hx]; exact h.2⟩
theorem kpc_kp {X : Nat → Prop} {m0 a b : Mem} (h : KpC X a b) (k : Kp m0 a) (hx : ∀ j, X j → m0.next ≤ j) : Kp m0 b :=
  ⟨Nat.le_trans k.next h.next, fun id hi => (h.get id (Nat.lt_of_lt_of_le hi k.next) (fun x => by have := hx id x; omega)).trans (k.get id hi), fun id hi => have q := h.x id (Nat.lt_of_lt_of_le hi k.next) (fun x => by have := hx id x; omega); ⟨q.1.trans (k.x id hi).1, q.2.trans (k.x id hi).2⟩⟩
theorem KpC.cut {Y : Nat → Prop} {m m' : Mem} (h : KpC (fun i => Y i ∨ m.next ≤ i) m m') : KpC Y m m' := ⟨h.next, fun id hi hx => h.get id hi (fun q => q.elim hx fun q => by omega), fun id hi hx => h.x id hi (fun q => q.elim hx fun q => by omega)⟩
theorem kc_set (B : Nat) (cs : List AV) (m : Mem) : KpC (fun i => i = B) m (m.set B cs) := ⟨by simp, fun id hi hx => by simp [show id ≠ B from hx], fun id hi hx => by simp⟩
theorem acc_keptC {X : Nat → Prop} {m0 m m' : Mem} {k : Nat} {ag : Bool} {ys : List AV} {v : AV} (h : Acc m0 m k ag ys v) (kx : KpC X m m') (hx : ∀ j, owns v j → ¬ X j) : Acc m0 m' k ag ys v := by
  rcases h with h | ⟨h, id, w, rfl, h2, h3, h4⟩
  · exact .inl h
  · exact .inr ⟨h, id, w, rfl, h2, Nat.lt_of_lt_of_le h3 kx.next, by rw [kx.get id h3 (hx id rfl)]; exact h4⟩
/-- An append to a slice of one's own, whatever is appended. -/
theorem acc_any {m0 m : Mem} {T : TypeId} {k : Nat} {ag : Bool} {ys zs : List AV} {v : AV} (h : Acc m0 m k ag ys v) (h0 : m0.next ≤ m.next) (hy : okAll k ys = true) (el : ElemOf Tryz.prog T k ag) (ho : okAll k zs = true) (hf : fzx Tryz.prog T m zs = (zs, m)) (hb : ys.length + zs.length ≤ 2 ^ 26) :
    ∃ v' m3, aappend Tryz.prog T v none (some zs) m = some (v', m3) ∧ Acc m0 m3 k ag (ys ++ zs) v' ∧ KpC (owns v) m m3 ∧ (∀ j, owns v' j → owns v j ∨ m.next ≤ j) := by
  cases zs with
  | nil =>
    refine ⟨v, m, aapp_none el ?_, by simpa using h, .refl _ _, fun j h => .inl h⟩
    rcases h with ⟨_, rfl⟩ | ⟨_, id, w, rfl, _⟩
    · exact .inl ⟨_, rfl⟩
    · exact .inr ⟨_, _, _, _, _, _, rfl⟩
  | cons z zs =>
    obtain ⟨m3, a1, a2, ⟨w, a3⟩, a4, a5⟩ := acc_app2 h hy el (zs := z :: zs) (zs' := z :: zs) (List.cons_ne_nil _ _) ho hf (.refl m) hb
    refine ⟨_, m3, a1, .inr ⟨by simp, m.next, w, by simp, h0, by omega, a3⟩, ⟨by omega, fun j hj hx => a4 j hj hx, fun j hj hx => a5 j hj⟩, ?_⟩
    rintro j rfl
    exact .inr (Nat.le_refl _)
theorem flat_at {k : Nat} : ∀ {ys : List AV} {j : Nat} {y : AV}, okAll k ys = true → ys[j]? = some y → j * k + k ≤ (flat ys).length ∧ ((flat ys).drop (j * k)).take k = y.cells
  | [], j, y, _, h => by simp at h
  | a :: ys, 0, y, ho, h => by
    rw [okAll_cons] at ho
    simp at ho h
    subst h
    rw [flat_cons]
    refine ⟨by simp; omega, ?_⟩
    simp only [Nat.zero_mul, List.drop_zero]
    rw [List.take_append_of_le_length (by omega), List.take_of_length_le (by omega)]
  | a :: ys, j + 1, y, ho, h => by
    rw [okAll_cons] at ho
    simp at ho h
    obtain ⟨h1, h2⟩ := flat_at ho.2 h
    rw [flat_cons]
    have e : (j + 1) * k = a.cells.length + j * k := by rw [ho.1.2, Nat.succ_mul]; omega
    rw [e]
    refine ⟨by rw [List.length_append]; omega, ?_⟩
    rw [List.drop_append, List.drop_eq_nil_of_le (by omega), List.nil_append, show a.cells.length + j * k - a.cells.length = j * k by omega, h2]
/-- A list, or a slice that was made since a memory. -/
def Lv (m0 m : Mem) (k : Nat) (ag : Bool) (ys : List AV) (v : AV) : Prop := (∃ n, n ≤ 1 ∧ ys = [] ∧ v = .emp n) ∨ v = .lst ys ∨ ∃ id w c, v = .sl id 0 ys.length k ag c ∧ m0.next ≤ id ∧ id < m.next ∧ m.get id = some (.cells (flat ys) false w)
theorem Lv.keep {X : Nat → Prop} {m0 m m' : Mem} {k : Nat} {ag : Bool} {ys : List AV} {v : AV} (h : Lv m0 m k ag ys v) (kc : KpC X m m') (hx : ∀ j, owns v j → ¬ X j) : Lv m0 m' k ag ys v := by
  rcases h with h | h | ⟨id, w, c, rfl, h2, h3, h4⟩
  · exact .inl h
  · exact .inr (.inl h)
  · exact .inr (.inr ⟨id, w, c, rfl, h2, Nat.lt_of_lt_of_le h3 kc.next, by rw [kc.get id h3 (hx id rfl)]; exact h4⟩)
theorem Lv.lt {m0 m : Mem} {k : Nat} {ag : Bool} {ys : List AV} {v : AV} (h : Lv m0 m k ag ys v) : ∀ j, owns v j → m0.next ≤ j ∧ j < m.next := by
  rcases h with ⟨n, _, _, rfl⟩ | rfl | ⟨id, w, c, rfl, h2, h3, h4⟩
  · intro j hj; exact hj.elim
  · intro j hj; exact hj.elim
  · rintro j rfl; exact ⟨h2, h3⟩
theorem Lv.back {m0 m m' : Mem} {k : Nat} {ag : Bool} {ys : List AV} {v : AV} (h : Lv m m' k ag ys v) (hk : m0.next ≤ m.next) : Lv m0 m' k ag ys v := by
  rcases h with h | h | ⟨id, w, c, h1, h2, h3⟩
  · exact .inl h
  · exact .inr (.inl h)
  · exact .inr (.inr ⟨id, w, c, h1, Nat.le_trans hk h2, h3⟩)
theorem Lv.okc {m0 m : Mem} {k : Nat} {ag : Bool} {ys : List AV} {v : AV} (h : Lv m0 m k ag ys v) : v.okc = true ∧ v.cells = [v] := by
  rcases h with ⟨n, _, _, rfl⟩ | rfl | ⟨id, w, c, rfl, _⟩ <;> exact ⟨rfl, rfl⟩
theorem Lv.fz {m0 m : Mem} {k : Nat} {ag : Bool} {ys : List AV} {v : AV} (h : Lv m0 m k ag ys v) (ha : (ag || k == 1) = true) (hy : ∀ y ∈ ys, y.cells.length = k ∧ (if ag then AV.agg y.cells = y else y.cells = [y])) (ho : okAll k ys = true) : ∃ m2, fz1 m v = (.lst ys, m2) ∧ KpC (owns v) m m2 := by
  rcases h with ⟨n, hn, rfl, rfl⟩ | rfl | ⟨id, w, c, rfl, h2, h3, h4⟩
  · have : n = 0 ∨ n = 1 := by omega
    rcases this with rfl | rfl <;> exact ⟨m, rfl, .refl _ _⟩
  · exact ⟨m, rfl, .refl _ _⟩
  · refine ⟨_, fz1_row ha h4 hy ho, ⟨Nat.le_of_eq (Mem.next_mark _ _ _ _).symm, fun j hj hn => by rw [Mem.get_mark, if_neg (fun e => hn e.symm)], fun j hj hn => by simp⟩⟩
theorem Lv.len {m0 m m' : Mem} {k T e : Nat} {ag : Bool} {ys : List AV} {v : AV} {R : TypeId} (h : Lv m0 m k ag ys v) (hT : Tryz.prog.underlying T = some (.slice e)) : abuiltin Tryz.prog .len #[T] R [v] m' = some (int ys.length, m') := by
  rcases h with ⟨n, _, rfl, rfl⟩ | rfl | ⟨id, w, c, rfl, _⟩
  · exact alen_emp hT
  · exact alen_lst hT
  · exact alen_sl hT
end Go.Proofs.YtnhcmcfgemoehaaGreat

/- The settings; the table of procedures. -/
set_option linter.unusedSimpArgs false
set_option linter.unusedVariables false
set_option linter.unusedSectionVars false
namespace Go.Proofs.YtnhcmcfgemoehaaGreat
set_option maxRecDepth 4000
open Go.V
theorem follows_mixed : Tryz.prog.follows .mixedOrders = true := by kernel_rfl
theorem cl24 : CloneAt Tryz.prog 62 := ⟨fun m => by kernel_rfl, fun m => ⟨1, false, by kernel_rfl⟩⟩
theorem cl38 : CloneAt Tryz.prog 110 := ⟨fun m => by kernel_rfl, fun m => ⟨2, true, by kernel_rfl⟩⟩
theorem cl39 : CloneAt Tryz.prog 111 := ⟨fun m => by kernel_rfl, fun m => ⟨1, false, by kernel_rfl⟩⟩
theorem mcl37 : ByHand Tryz.prog 109 mcloneH := told_mclone Tryz.func109 (by kernel_rfl) rfl (by kernel_rfl) (by kernel_rfl)
/-- Closed runs. -/
noncomputable def ck : Cfg := ⟨fun _ => true, fun _ => true, fun f => if f == 62 || f == 110 || f == 111 then some (cloneH Tryz.prog f) else if f == 109 then some mcloneH else none, fun _ => 0⟩
theorem told_ck (f : FuncId) (h : List AV → Mem → Option (AV × Mem)) (e : ck.hook f = some h) : ByHand Tryz.prog f h := by
  unfold ck at e
  dsimp only at e
  split at e
  · rename_i hc
    cases e
    have : f = 62 ∨ f = 110 ∨ f = 111 := by simpa [or_assoc] using hc
    rcases this with rfl | rfl | rfl
    · exact ⟨fun B W args m v m' e2 hv => cloneH_sound follows_mixed cl24 e2 hv, fun args m v m' e2 => cloneH_ver (W := default) e2⟩
    · exact ⟨fun B W args m v m' e2 hv => cloneH_sound follows_mixed cl38 e2 hv, fun args m v m' e2 => cloneH_ver (W := default) e2⟩
    · exact ⟨fun B W args m v m' e2 hv => cloneH_sound follows_mixed cl39 e2 hv, fun args m v m' e2 => cloneH_ver (W := default) e2⟩
  · split at e
    · rename_i hc
      have : f = 109 := by simpa using hc
      subst this
      cases e
      exact mcl37
    · cases e
/-- The functions that leave something in memory. -/
def leavesP : List Nat := [20, 37, 39, 32, 63, 42, 66, 76, 113, 118, 134]
noncomputable def cp : Cfg := ⟨fun _ => false, fun _ => false, fun f => if f == 62 || f == 110 || f == 111 then some (cloneP Tryz.prog f) else if f == 109 then some mcloneH else if f == 7 || f == 33 then some (roH (limH Tryz.prog ck f)) else none, fun f => if leavesP.contains f then 0 else 1⟩
/-- A closed run, as a run that only looks. -/
theorem ro_run {P : Program} {cfg c2 : Cfg} {n : Nat} {f : FuncId} {v : AV} {m : Mem} (hk : cfg.hook f = some (roH (limH P c2 f))) (h : (afn P c2 n (.func f) [] Mem.empty).map (·.1) = some v) (hv : v.out = true) : EH P cfg (.func f) [] m v m := by
  refine eh_hook hk ?_
  obtain ⟨⟨v', m'⟩, h1, h2⟩ := Option.map_eq_some_iff.1 h
  cases h2
  have h3 : limH P c2 f [] Mem.empty = some (v', m') := lim_eq (.of h1)
  unfold roH
  simp [fzvs, AV.bels, h3, hv]
/-- The procedures: a name, how many values at the least, at the most. -/
def rws : List (List UInt8 × Int × Int) :=
  [([43], 0, -1),
   ([45], 1, -1),
   ([42], 0, -1),
   ([113, 117, 111, 116, 105, 101, 110, 116], 2, 2),
   ([114, 101, 109, 97, 105, 110, 100, 101, 114], 2, 2),
   ([109, 111, 100, 117, 108, 111], 2, 2),
   ([61], 1, -1),
   ([60], 1, -1),
   ([62], 1, -1),
   ([60, 61], 1, -1),
   ([62, 61], 1, -1),
   ([122, 101, 114, 111, 63], 1, 1),
   ([110, 111, 116], 1, 1),
   ([101, 113, 63], 2, 2),
   ([101, 113, 117, 97, 108, 63], 2, 2),
   ([99, 111, 110, 115], 2, 2),
   ([99, 97, 114], 1, 1),
   ([99, 100, 114], 1, 1),
   ([115, 101, 116, 45, 99, 97, 114, 33], 2, 2),
   ([115, 101, 116, 45, 99, 100, 114, 33], 2, 2),
   ([112, 97, 105, 114, 63], 1, 1),
   ([110, 117, 108, 108, 63], 1, 1),
   ([108, 105, 115, 116], 0, -1),
   ([108, 101, 110, 103, 116, 104], 1, 1),
   ([97, 112, 112, 101, 110, 100], 0, -1),
   ([114, 101, 118, 101, 114, 115, 101], 1, 1),
   ([108, 105, 115, 116, 45, 114, 101, 102], 2, 2),
   ([118, 101, 99, 116, 111, 114], 0, -1),
   ([109, 97, 107, 101, 45, 118, 101, 99, 116, 111, 114], 1, 2),
   ([118, 101, 99, 116, 111, 114, 45, 114, 101, 102], 2, 2),
   ([118, 101, 99, 116, 111, 114, 45, 115, 101, 116, 33], 3, 3),
   ([118, 101, 99, 116, 111, 114, 45, 108, 101, 110, 103, 116, 104], 1, 1),
   ([115, 116, 114, 105, 110, 103, 45, 108, 101, 110, 103, 116, 104], 1, 1),
   ([115, 116, 114, 105, 110, 103, 45, 114, 101, 102], 2, 2),
   ([115, 116, 114, 105, 110, 103, 45, 97, 112, 112, 101, 110, 100], 0, -1),
   ([115, 117, 98, 115, 116, 114, 105, 110, 103], 3, 3),
   ([115, 116, 114, 105, 110, 103, 61, 63], 2, 2),
   ([115, 121, 109, 98, 111, 108, 45, 62, 115, 116, 114, 105, 110, 103], 1, 1),
   ([115, 116, 114, 105, 110, 103, 45, 62, 115, 121, 109, 98, 111, 108], 1, 1),
   ([110, 117, 109, 98, 101, 114, 45, 62, 115, 116, 114, 105, 110, 103], 1, 1),
   ([115, 116, 114, 105, 110, 103, 45, 62, 110, 117, 109, 98, 101, 114], 1, 1),
   ([99, 104, 97, 114, 45, 62, 105, 110, 116, 101, 103, 101, 114], 1, 1),
   ([105, 110, 116, 101, 103, 101, 114, 45, 62, 99, 104, 97, 114], 1, 1),
   ([115, 121, 109, 98, 111, 108, 63], 1, 1),
   ([115, 116, 114, 105, 110, 103, 63], 1, 1),
   ([110, 117, 109, 98, 101, 114, 63], 1, 1),
   ([98, 111, 111, 108, 101, 97, 110, 63], 1, 1),
   ([99, 104, 97, 114, 63], 1, 1),
   ([112, 114, 111, 99, 101, 100, 117, 114, 101, 63], 1, 1),
   ([118, 101, 99, 116, 111, 114, 63], 1, 1),
   ([97, 98, 115], 1, 1),
   ([109, 105, 110], 1, -1),
   ([109, 97, 120], 1, -1),
   ([101, 120, 112, 116], 2, 2),
   ([103, 99, 100], 0, -1),
   ([], 0, 0),
   ([], 0, 0),
   ([], 0, 0),
   ([], 0, 0),
   ([], 0, 0),
   ([], 0, 0),
   ([], 0, 0),
   ([], 0, 0),
   ([], 0, 0),
   ([97, 112, 112, 108, 121], 2, 2),
   ([99, 97, 108, 108, 47, 49, 99, 99], 1, 1),
   ([101, 114, 114, 111, 114], 1, -1),
   ([115, 112, 97, 119, 110], 1, 1),
   ([121, 105, 101, 108, 100], 0, 0),
   ([106, 111, 105, 110], 1, 1),
   ([115, 101, 108, 102], 0, 0),
   ([109, 97, 107, 101, 45, 99, 104, 97, 110, 110, 101, 108], 1, 1),
   ([115, 101, 110, 100], 2, 2),
   ([114, 101, 99, 101, 105, 118, 101], 1, 1),
   ([99, 108, 111, 115, 101], 1, 1),
   ([109, 97, 107, 101, 45, 109, 117, 116, 101, 120], 0, 0),
   ([108, 111, 99, 107], 1, 1),
   ([117, 110, 108, 111, 99, 107], 1, 1),
   ([109, 97, 107, 101, 45, 99, 111, 110, 100, 105, 116, 105, 111, 110], 0, 0),
   ([119, 97, 105, 116], 2, 2),
   ([115, 105, 103, 110, 97, 108], 1, 1),
   ([98, 114, 111, 97, 100, 99, 97, 115, 116], 1, 1),
   ([109, 97, 107, 101, 45, 101, 110, 103, 105, 110, 101], 1, 1),
   ([114, 117, 110, 45, 101, 110, 103, 105, 110, 101], 4, 4),
   ([100, 105, 115, 112, 108, 97, 121], 1, 1)]
def rowC (r : List UInt8 × Int × Int) : List AV := [.sc (.string ⟨⟨r.1⟩⟩), int r.2.1, int r.2.2]
def tableA : AV := .agg (rws.flatMap rowC)
theorem rws_length : rws.length = 85 := rfl
theorem rows_length (l : List (List UInt8 × Int × Int)) : (l.flatMap rowC).length = 3 * l.length := by
  induction l with
  | nil => rfl
  | cons r l ih => rw [List.flatMap_cons, List.length_append, ih, List.length_cons]; show 3 + _ = _; omega
theorem rows_at : ∀ (l : List (List UInt8 × Int × Int)) (i : Nat) (r : List UInt8 × Int × Int), l[i]? = some r → ((l.flatMap rowC).drop (i * 3)).take 3 = rowC r
  | [], i, r, h => by simp at h
  | q :: l, 0, r, h => by
    simp at h; subst h
    rfl
  | q :: l, i + 1, r, h => by
    have := rows_at l i r (by simpa using h)
    rw [List.flatMap_cons, show (i + 1) * 3 = (rowC q).length + i * 3 by show _ = 3 + _; omega, List.drop_append, List.drop_eq_nil_of_le (by omega), Nat.add_sub_cancel_left]
    exact this
theorem run22 : (afn Tryz.prog ck 3 (.func 33) [] Mem.empty).map (·.1) = some tableA := by kernel_rfl
theorem table_out : tableA.out = true := by kernel_rfl
theorem run6 : (afn Tryz.prog ck 40 (.func 7) [] Mem.empty).map (·.1) = some (.sc (.bool true)) := by kernel_rfl
theorem g6 (m : Mem) : EH Tryz.prog cp (.func 7) [] m (.sc (.bool true)) m := ro_run rfl run6 rfl
theorem table_at {i : Nat} {r : List UInt8 × Int × Int} (h : rws[i]? = some r) : aindex Tryz.prog 87 tableA (int i) = some (.agg (rowC r)) := by
  have hi : i < 85 := by
    have := (List.getElem?_eq_some_iff.1 h).1
    rwa [rws_length] at this
  have hl : (rws.flatMap rowC).length = 255 := by rw [rows_length, rws_length]
  unfold aindex tableA
  have h0 : ¬ ((i : Int) < 0) := by omega
  simp only [h0, if_false, tarr87, tsize81, Int.toNat_natCast, hi, if_true]
  rw [partOf_ag tagg81 tsize81, if_pos (by omega), rows_at rws i r h]
attribute [irreducible] rws
end Go.Proofs.YtnhcmcfgemoehaaGreat

/- The setting for arenas. -/
set_option linter.unusedSimpArgs false
set_option linter.unusedVariables false
set_option linter.unusedSectionVars false
namespace Go.Proofs.YtnhcmcfgemoehaaGreat
open Go.V
/-- The functions that leave something in memory. -/
def leavesA : List Nat := [20, 21, 36, 59, 60, 64, 63, 76, 42, 78, 37, 134, 127, 118, 66, 113, 39, 70, 71, 72, 130, 129, 132, 137, 138, 139, 128, 131, 22, 61, 108, 133, 172, 171, 181]
/-- What was told of data. -/
def toldD : List Nat := [23, 35, 79, 100, 106, 40]
noncomputable def ca : Cfg := ⟨fun f => f == 64 || f == 78 || f == 131, fun f => f == 64 || f == 130,
  fun f => if f == 110 || f == 62 then some (cloneL Tryz.prog f) else if f == 111 then some (cloneP Tryz.prog f) else if f == 109 then some mcloneH else if f == 7 || f == 33 then some (roH (limH Tryz.prog ck f)) else if toldD.contains f then some (limH Tryz.prog cf f) else none,
  fun f => if leavesA.contains f then 0 else 1⟩
theorem told_cloneL {f : FuncId} (h : CloneAt Tryz.prog f) : ByHand Tryz.prog f (cloneL Tryz.prog f) := ⟨fun B W args m v m' e2 hv => cloneL_sound follows_mixed h e2 hv, fun args m v m' e2 => cloneL_ver (W := default) e2⟩
theorem told_cloneP {f : FuncId} (h : CloneAt Tryz.prog f) : ByHand Tryz.prog f (cloneP Tryz.prog f) := ⟨fun B W args m v m' e2 hv => cloneP_sound follows_mixed h e2 hv, fun args m v m' e2 => cloneP_ver (W := default) e2⟩
theorem told_cf (f : FuncId) (h : List AV → Mem → Option (AV × Mem)) (e : cf.hook f = some h) : ByHand Tryz.prog f h := by
  cases e
theorem told_ca (f : FuncId) (h : List AV → Mem → Option (AV × Mem)) (e : ca.hook f = some h) : ByHand Tryz.prog f h := by
  unfold ca at e
  dsimp only at e
  split at e
  · rename_i hc
    have : f = 110 ∨ f = 62 := by simpa using hc
    cases e
    rcases this with rfl | rfl
    · exact told_cloneL cl38
    · exact told_cloneL cl24
  · split at e
    · rename_i hc
      have : f = 111 := by simpa using hc
      subst this
      cases e
      exact told_cloneP cl39
    · split at e
      · rename_i hc
        have : f = 109 := by simpa using hc
        subst this
        cases e
        exact mcl37
      · split at e
        · cases e; exact told_ro (told_lim follows_mixed told_ck f)
        · split at e
          · cases e; exact told_lim follows_mixed told_cf f
          · cases e
theorem hooksA (B : Bs) (W : World) : Hooks Tryz.prog B W ca := hooks_of told_ca
theorem ca_gives {f : FuncId} {args : List AV} {r : AV} (h : Gives Tryz.prog cf f args r) (hf : ca.hook f = some (limH Tryz.prog cf f) := by rfl) : Gives Tryz.prog ca f args r := fun m0 args0 m hz => eh_hook hf (lim_eq (h m0 args0 m hz))
end Go.Proofs.YtnhcmcfgemoehaaGreat

/- An arena, as plain data; how it lies in the memory. -/
set_option linter.unusedSimpArgs false
set_option linter.unusedVariables false
set_option linter.unusedSectionVars false
namespace Go.Proofs.YtnhcmcfgemoehaaGreat
open Go.V
/-- A value: its kind, its number. -/
abbrev Val := Int × Int
structure CeM where
  k : Int
  n : Int
  a : List Val
  s : List UInt8
structure ArM where
  room : Int
  cells : List CeM
  names : List (List UInt8)
abbrev strA (s : List UInt8) : AV := .sc (.string ⟨⟨s⟩⟩)
def valA (v : Val) : AV := .agg [int v.1, int v.2]
def vals (l : List Val) : List AV := l.map valA
def byts (s : List UInt8) : List AV := s.map fun b => .sc (.int .u8 b.toNat)
/-- A cell, its values a list that never changes. -/
def ceA (c : CeM) : AV := .agg [int c.k, int c.n, .lst (vals c.a), .lst (byts c.s)]
/-- A cell in an arena: its values are a slice. -/
def rowA (c : CeM) (x : AV) : AV := .agg [int c.k, int c.n, x, .lst (byts c.s)]
@[simp] theorem valA_cells (v : Val) : (valA v).cells = [int v.1, int v.2] := Eq.trans rfl rfl
@[simp] theorem valA_okc (v : Val) : (valA v).okc = true := Eq.trans rfl rfl
@[simp] theorem valA_bel (v : Val) (n : Nat) : (valA v).bel n = true := Eq.trans rfl rfl
@[simp] theorem valA_fzv (v : Val) (m : Mem) : fzv m (valA v) = (valA v, m) := by simp [valA, fzv, fzs, fz1]
theorem valA_agg (v : Val) : AV.agg [int v.1, int v.2] = valA v := Eq.trans rfl rfl
@[simp] theorem vals_length (l : List Val) : (vals l).length = l.length := by simp [vals]
theorem vals_get (l : List Val) (i : Nat) : (vals l)[i]? = (l[i]?).map valA := by simp [vals]
@[simp] theorem vals_nil : vals [] = [] := rfl
theorem vals_cons (v : Val) (l : List Val) : vals (v :: l) = valA v :: vals l := rfl
theorem vals_append (l r : List Val) : vals (l ++ r) = vals l ++ vals r := by simp [vals]
@[simp] theorem vals_fzvs (m : Mem) : ∀ l : List Val, fzvs m (vals l) = (vals l, m)
  | [] => rfl
  | v :: l => by simp [vals_cons, fzvs, vals_fzvs m l]
@[simp] theorem vals_bels (n : Nat) : ∀ l : List Val, AV.bels n (vals l) = true
  | [] => rfl
  | v :: l => by simp [vals_cons, AV.bels, vals_bels n l]
@[simp] theorem vals_ok : ∀ l : List Val, okAll 2 (vals l) = true
  | [] => rfl
  | v :: l => by rw [vals_cons, okAll_cons, vals_ok l]; simp
theorem vals_row (l : List Val) : ∀ y ∈ vals l, y.cells.length = 2 ∧ (if true then AV.agg y.cells = y else y.cells = [y]) := by
  intro y hy
  obtain ⟨p, _, rfl⟩ := List.mem_map.1 hy
  simp [valA]
@[simp] theorem byts_length (s : List UInt8) : (byts s).length = s.length := by simp [byts]
@[simp] theorem byts_nil : byts [] = [] := rfl
@[simp] theorem byts_fzvs (m : Mem) : ∀ l : List UInt8, fzvs m (byts l) = (byts l, m)
  | [] => rfl
  | v :: l => by
    have := byts_fzvs m l
    simp only [byts] at this
    simp [byts, fzvs, this]
@[simp] theorem byts_bels (n : Nat) : ∀ l : List UInt8, AV.bels n (byts l) = true
  | [] => rfl
  | v :: l => by
    have := byts_bels n l
    simp only [byts] at this
    simp [byts, AV.bels, AV.bel, this]
@[simp] theorem byts_ok : ∀ l : List UInt8, okAll 1 (byts l) = true
  | [] => rfl
  | v :: l => by
    have := byts_ok l
    simp only [byts] at this
    simp [byts, okAll_cons, this]
@[simp] theorem ceA_okc (c : CeM) : (ceA c).okc = true := Eq.trans rfl rfl
@[simp] theorem ceA_cells (c : CeM) : (ceA c).cells = [int c.k, int c.n, .lst (vals c.a), .lst (byts c.s)] := Eq.trans rfl rfl
@[simp] theorem ceA_bel (c : CeM) (n : Nat) : (ceA c).bel n = true := by simp [ceA, AV.bel, AV.bels]
@[simp] theorem ceA_fzv (c : CeM) (m : Mem) : fzv m (ceA c) = (ceA c, m) := by simp [ceA, fzv, fzs, fz1]
@[simp] theorem rowA_okc (c : CeM) (x : AV) : (rowA c x).okc = true := Eq.trans rfl rfl
@[simp] theorem rowA_cells (c : CeM) (x : AV) : (rowA c x).cells = [int c.k, int c.n, x, .lst (byts c.s)] := Eq.trans rfl rfl
theorem rowA_agg (c : CeM) (x : AV) : AV.agg (rowA c x).cells = rowA c x := Eq.trans rfl rfl
/-- A slice of a memory, its object marked by a number; e: what it is when it is empty. -/
def Has (t : Nat → Option Nat) (n k : Nat) (ag : Bool) (e : AV) (m : Mem) (x : AV) (ys : List AV) : Prop :=
  (ys = [] ∧ x = e) ∨ (ys ≠ [] ∧ ∃ id v, x = .sl id 0 ys.length k ag none ∧ id < m.next ∧ t id = some n ∧ m.get id = some (.cells (flat ys) false v))
theorem Has.mono {t t' : Nat → Option Nat} {n k : Nat} {ag : Bool} {e x : AV} {m m' : Mem} {ys : List AV} (h : Has t n k ag e m x ys) (hn : m.next ≤ m'.next) (hk : ∀ j, j < m.next → t j = some n → m'.get j = m.get j ∧ t' j = some n) : Has t' n k ag e m' x ys := by
  rcases h with h | ⟨h, id, v, rfl, h1, h2, h3⟩
  · exact .inl h
  · obtain ⟨a, b⟩ := hk id h1 h2
    exact .inr ⟨h, id, v, rfl, by omega, b, by rw [a]; exact h3⟩
/-- Where the symbols are. -/
def symE (i : Nat) : List (List UInt8) → List (Value × AV × Nat)
  | [] => []
  | s :: l => (.string ⟨⟨s⟩⟩, int i, i) :: symE (i + 1) l
structure ArT (t : Nat → Option Nat) (A M : Nat) (cs ns : AV) (xs : List AV) (a : ArM) (m : Mem) : Prop where
  lt : A < m.next
  ta : t A = some 0
  get : ∃ v, m.get A = some (.cells [int a.room, cs, ns, .mp M] false v)
  ml : M < m.next
  tm : t M = some 3
  map : ∃ v, m.map M = some ⟨symE 0 a.names, a.names.length, v⟩
  cells : Has t 1 4 true (.emp 0) m cs (List.zipWith rowA a.cells xs)
  names : Has t 2 1 false (.emp 0) m ns (a.names.map strA)
  len : xs.length = a.cells.length
  row : ∀ (i : Nat) c x, a.cells[i]? = some c → xs[i]? = some x → Has t (4 + i) 2 true (.emp 1) m x (vals c.a)
  sane : 1 ≤ a.room ∧ a.room ≤ 65536 ∧ (a.cells.length : Int) ≤ a.room ∧ a.names.length ≤ 65536
/-- An arena lies at A; its objects are among X. -/
def Ar (X : Nat → Prop) (A : Nat) (a : ArM) (m : Mem) : Prop := ∃ t M cs ns xs, ArT t A M cs ns xs a m ∧ ∀ j, t j ≠ none → X j ∧ j < m.next
/-- An arena has become another one; what is not of it is as it was. -/
def Up (X : Nat → Prop) (A : Nat) (a : ArM) (m m' : Mem) : Prop := ∃ X', Ar X' A a m' ∧ KpC X m m' ∧ ∀ j, X' j → X j ∨ m.next ≤ j
theorem ArT.kc {t : Nat → Option Nat} {A M : Nat} {cs ns : AV} {xs : List AV} {a : ArM} {m m' : Mem} {Y : Nat → Prop} (h : ArT t A M cs ns xs a m) (k : KpC Y m m') (hY : ∀ j n, j < m.next → t j = some n → ¬ Y j) : ArT t A M cs ns xs a m' := by
  obtain ⟨lt, ta, ⟨v, get⟩, ml, tm, ⟨v2, map⟩, cells, names, len, row, sane⟩ := h
  have keep : ∀ j n, j < m.next → t j = some n → m'.get j = m.get j ∧ t j = some n := fun j n hj ht => ⟨k.get j hj (hY j n hj ht), ht⟩
  exact ⟨Nat.lt_of_lt_of_le lt k.next, ta, ⟨v, by rw [(keep _ _ lt ta).1]; exact get⟩, Nat.lt_of_lt_of_le ml k.next, tm, ⟨v2, by rw [(k.x M ml (hY _ _ ml tm)).2]; exact map⟩, cells.mono k.next fun j => keep j _, names.mono k.next fun j => keep j _, len, fun i c x hc hx => (row i c x hc hx).mono k.next fun j => keep j _, sane⟩
section
variable {X Y : Nat → Prop} {A : Nat} {a b : ArM} {m m1 m' : Mem}
theorem Ar.kc (h : Ar X A a m) (k : KpC Y m m') (hY : ∀ j, X j → Y j → m.next ≤ j) : Ar X A a m' := by
  obtain ⟨t, M, cs, ns, xs, h, hx⟩ := h
  refine ⟨t, M, cs, ns, xs, h.kc k fun j n hj ht y => ?_, fun j hj => ⟨(hx j hj).1, Nat.lt_of_lt_of_le (hx j hj).2 k.next⟩⟩
  have := hY j (hx j (by rw [ht]; simp)).1 y
  omega
theorem Ar.kp (h : Ar X A a m) (k : Kp m m') : Ar X A a m' := h.kc (Y := fun _ => False) (.of (.of k)) fun _ _ h => h.elim
theorem Ar.mono (h : Ar X A a m) (k : ∀ j, j < m.next → X j → Y j) : Ar Y A a m := by
  obtain ⟨t, M, cs, ns, xs, h, hx⟩ := h
  exact ⟨t, M, cs, ns, xs, h, fun j hj => ⟨k j (hx j hj).2 (hx j hj).1, (hx j hj).2⟩⟩
theorem Ar.lt (h : Ar X A a m) : A < m.next := by
  obtain ⟨_, _, _, _, _, h, _⟩ := h
  exact h.lt
theorem Ar.own (h : Ar X A a m) : X A := by
  obtain ⟨_, _, _, _, _, h, hx⟩ := h
  exact (hx A (by rw [h.ta]; simp)).1
theorem Ar.sane (h : Ar X A a m) : 1 ≤ a.room ∧ a.room ≤ 65536 ∧ (a.cells.length : Int) ≤ a.room ∧ a.names.length ≤ 65536 := by
  obtain ⟨_, _, _, _, _, h, _⟩ := h
  exact h.sane
theorem Up.refl (h : Ar X A a m) : Up X A a m m := ⟨X, h, .refl _ _, fun _ h => .inl h⟩
theorem Up.kp (h : Ar X A a m) (k : Kp m m') : Up X A a m m' := ⟨X, h.kp k, .of (.of k), fun _ h => .inl h⟩
/-- One after the other. -/
theorem Up.after {X1 : Nat → Prop} (k : KpC X m m1) (hx : ∀ j, X1 j → X j ∨ m.next ≤ j) (h : Up X1 A a m1 m') : Up X A a m m' := by
  obtain ⟨X2, h1, h2, h3⟩ := h
  have hn := k.next
  refine ⟨X2, h1, (KpC.cut ((k.mono fun j h => .inl h).trans (h2.mono hx))), fun j hj => ?_⟩
  rcases h3 j hj with h | h
  · exact hx j h
  · exact .inr (by omega)
end
theorem zip_get {c : CeM} {x : AV} : ∀ {l : List CeM} {xs : List AV} {i : Nat}, l[i]? = some c → xs[i]? = some x → (List.zipWith rowA l xs)[i]? = some (rowA c x)
  | [], _, i, h, _ => by simp at h
  | _ :: _, [], i, _, h => by simp at h
  | a :: l, b :: xs, 0, h, k => by simp at h k; subst h; subst k; rfl
  | a :: l, b :: xs, i + 1, h, k => by simpa using zip_get (l := l) (xs := xs) (i := i) (by simpa using h) (by simpa using k)
theorem zip_ok : ∀ (l : List CeM) (xs : List AV), okAll 4 (List.zipWith rowA l xs) = true
  | [], _ => rfl
  | _ :: _, [] => rfl
  | a :: l, b :: xs => by rw [List.zipWith_cons_cons, okAll_cons, zip_ok l xs]; simp
/-- The cell at a place: where it is, what it is. -/
theorem ArT.at {t : Nat → Option Nat} {A M : Nat} {cs ns : AV} {xs : List AV} {a : ArM} {m : Mem} (h : ArT t A M cs ns xs a m) {i : Nat} {c : CeM} (hc : a.cells[i]? = some c) :
    ∃ C v x, cs = .sl C 0 a.cells.length 4 true none ∧ C < m.next ∧ t C = some 1 ∧ m.get C = some (.cells (flat (List.zipWith rowA a.cells xs)) false v) ∧ xs[i]? = some x ∧ (List.zipWith rowA a.cells xs)[i]? = some (rowA c x) ∧ Has t (4 + i) 2 true (.emp 1) m x (vals c.a) := by
  have hi := (List.getElem?_eq_some_iff.1 hc).1
  obtain ⟨x, hx⟩ : ∃ x, xs[i]? = some x := ⟨_, List.getElem?_eq_getElem (by rw [h.len]; exact hi)⟩
  have hz := zip_get hc hx
  rcases h.cells with ⟨e, _⟩ | ⟨_, C, v, h1, h2, h3, h4⟩
  · rw [e] at hz; simp at hz
  · exact ⟨C, v, x, by rw [h1]; simp [h.len], h2, h3, h4, hx, hz, h.row i c x hc hx⟩
end Go.Proofs.YtnhcmcfgemoehaaGreat
