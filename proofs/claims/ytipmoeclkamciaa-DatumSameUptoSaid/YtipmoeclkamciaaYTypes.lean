import Derived.Test.YtipmoeclkamciaaVE
import Derived.Test.YtipmoeclkamciaaRows
/- What the program's types are, by a program. -/
set_option linter.unusedSimpArgs false
set_option linter.unusedVariables false
set_option linter.unusedSectionVars false
namespace Go.Proofs.Ytipmoeclkamciaa
open Go.V
/-- The zero datum's cells. -/
def zeroCells : List AV := [.sc (.int .i64 0), .sc (.int .i64 0), .sc (.string ⟨⟨[]⟩⟩), .emp 0, .emp 0, .emp 0]
@[simp] theorem zeroCells_length : zeroCells.length = 6 := rfl
@[simp] theorem zeroCells_take : List.take 6 zeroCells = zeroCells := rfl
@[simp] theorem zeroCells_drop : List.drop 6 zeroCells = [] := rfl
@[simp] theorem okc_nilFunc : AV.okc (.sc .nilFunc) = true := Eq.trans rfl rfl
@[simp] theorem cells_nilFunc : AV.cells (.sc .nilFunc) = [.sc .nilFunc] := Eq.trans rfl rfl
@[simp] theorem okc_pointer {x : Option Addr} : AV.okc (.sc (.pointer x)) = true := Eq.trans rfl rfl
@[simp] theorem cells_pointer {x : Option Addr} : AV.cells (.sc (.pointer x)) = [.sc (.pointer x)] := Eq.trans rfl rfl
attribute [simp] Try.underlying1
@[simp] theorem tagg1 : tagg Try.prog 1 = some false := by kernel_rfl
@[simp] theorem tsize1 : tsize Try.prog 1 = some 1 := by kernel_rfl
@[simp] theorem tbytes1 : tbytes Try.prog 1 = some 8 := by kernel_rfl
@[simp] theorem tzero1 : tzero Try.prog 1 = some (.sc .nilFunc) := by kernel_rfl
attribute [simp] Try.underlying2
@[simp] theorem tagg2 : tagg Try.prog 2 = some false := by kernel_rfl
@[simp] theorem tsize2 : tsize Try.prog 2 = some 1 := by kernel_rfl
@[simp] theorem tbytes2 : tbytes Try.prog 2 = some 8 := by kernel_rfl
@[simp] theorem tzero2 : tzero Try.prog 2 = some (.sc (.int .i64 0)) := by kernel_rfl
attribute [simp] Try.underlying3
@[simp] theorem tagg3 : tagg Try.prog 3 = some false := by kernel_rfl
@[simp] theorem tsize3 : tsize Try.prog 3 = some 1 := by kernel_rfl
@[simp] theorem tbytes3 : tbytes Try.prog 3 = some 8 := by kernel_rfl
@[simp] theorem tzero3 : tzero Try.prog 3 = some (.sc (.int .i64 0)) := by kernel_rfl
attribute [simp] Try.underlying4
@[simp] theorem tagg4 : tagg Try.prog 4 = some false := by kernel_rfl
@[simp] theorem tsize4 : tsize Try.prog 4 = some 1 := by kernel_rfl
@[simp] theorem tbytes4 : tbytes Try.prog 4 = some 1 := by kernel_rfl
@[simp] theorem tzero4 : tzero Try.prog 4 = some (.sc (.bool false)) := by kernel_rfl
attribute [simp] Try.underlying5
@[simp] theorem tagg5 : tagg Try.prog 5 = some false := by kernel_rfl
@[simp] theorem tsize5 : tsize Try.prog 5 = some 1 := by kernel_rfl
@[simp] theorem tbytes5 : tbytes Try.prog 5 = some 1 := by kernel_rfl
@[simp] theorem tzero5 : tzero Try.prog 5 = some (.sc (.int .u8 0)) := by kernel_rfl
attribute [simp] Try.underlying9
@[simp] theorem tagg9 : tagg Try.prog 9 = some false := by kernel_rfl
@[simp] theorem tsize9 : tsize Try.prog 9 = some 1 := by kernel_rfl
@[simp] theorem tbytes9 : tbytes Try.prog 9 = some 16 := by kernel_rfl
@[simp] theorem tzero9 : tzero Try.prog 9 = some (.sc (.string ⟨⟨[]⟩⟩)) := by kernel_rfl
attribute [simp] Try.underlying12
@[simp] theorem tagg12 : tagg Try.prog 12 = some false := by kernel_rfl
@[simp] theorem tsize12 : tsize Try.prog 12 = some 1 := by kernel_rfl
@[simp] theorem tbytes12 : tbytes Try.prog 12 = some 8 := by kernel_rfl
@[simp] theorem tzero12 : tzero Try.prog 12 = some (.sc (.int .u64 0)) := by kernel_rfl
attribute [simp] Try.underlying17
@[simp] theorem tagg17 : tagg Try.prog 17 = some false := by kernel_rfl
@[simp] theorem tsize17 : tsize Try.prog 17 = some 1 := by kernel_rfl
@[simp] theorem tbytes17 : tbytes Try.prog 17 = some 8 := by kernel_rfl
@[simp] theorem tzero17 : tzero Try.prog 17 = some (.sc (.pointer Option.none)) := by kernel_rfl
attribute [simp] Try.underlying20
@[simp] theorem tagg20 : tagg Try.prog 20 = some false := by kernel_rfl
@[simp] theorem tsize20 : tsize Try.prog 20 = some 1 := by kernel_rfl
@[simp] theorem tbytes20 : tbytes Try.prog 20 = some 16 := by kernel_rfl
@[simp] theorem tzero20 : tzero Try.prog 20 = some (.sc .nilIface) := by kernel_rfl
attribute [simp] Try.underlying21
@[simp] theorem tagg21 : tagg Try.prog 21 = some false := by kernel_rfl
@[simp] theorem tsize21 : tsize Try.prog 21 = some 1 := by kernel_rfl
@[simp] theorem tbytes21 : tbytes Try.prog 21 = some 4 := by kernel_rfl
@[simp] theorem tzero21 : tzero Try.prog 21 = some (.sc (.int .i32 0)) := by kernel_rfl
attribute [simp] Try.underlying22
@[simp] theorem tagg22 : tagg Try.prog 22 = some false := by kernel_rfl
@[simp] theorem tsize22 : tsize Try.prog 22 = some 1 := by kernel_rfl
@[simp] theorem tbytes22 : tbytes Try.prog 22 = some 24 := by kernel_rfl
@[simp] theorem tzero22 : tzero Try.prog 22 = some (.emp 0) := by kernel_rfl
@[simp] theorem telem22 : telem Try.prog 22 = some 3 := by kernel_rfl
attribute [simp] Try.underlying23
@[simp] theorem tagg23 : tagg Try.prog 23 = some false := by kernel_rfl
@[simp] theorem tsize23 : tsize Try.prog 23 = some 1 := by kernel_rfl
@[simp] theorem tbytes23 : tbytes Try.prog 23 = some 24 := by kernel_rfl
@[simp] theorem tzero23 : tzero Try.prog 23 = some (.emp 0) := by kernel_rfl
@[simp] theorem telem23 : telem Try.prog 23 = some 25 := by kernel_rfl
attribute [simp] Try.underlying24
@[simp] theorem tagg24 : tagg Try.prog 24 = some true := by kernel_rfl
@[simp] theorem tsize24 : tsize Try.prog 24 = some 6 := by kernel_rfl
@[simp] theorem tbytes24 : tbytes Try.prog 24 = some 104 := by kernel_rfl
@[simp] theorem tzero24 : tzero Try.prog 24 = some (.agg [.sc (.int .i64 0), .sc (.int .i64 0), .sc (.string ⟨⟨[]⟩⟩), .emp 0, .emp 0, .emp 0]) := by kernel_rfl
@[simp] theorem fieldAddr24_0 {id off : Nat} : afieldAddr Try.prog 24 (.ptr id off) 0 = some (.ptr id (off + 0)) := by simp [afieldAddr, tfield, Try.underlying24]
@[simp] theorem fieldAddr24_0c {x : AV} {off : Nat} : afieldAddr Try.prog 24 (.cptr x off) 0 = some (.cptr x (off + 0)) := by simp [afieldAddr, tfield, Try.underlying24]
@[simp] theorem fieldAddr24_1 {id off : Nat} : afieldAddr Try.prog 24 (.ptr id off) 1 = some (.ptr id (off + 1)) := by simp [afieldAddr, tfield, Try.underlying24]
@[simp] theorem fieldAddr24_1c {x : AV} {off : Nat} : afieldAddr Try.prog 24 (.cptr x off) 1 = some (.cptr x (off + 1)) := by simp [afieldAddr, tfield, Try.underlying24]
@[simp] theorem fieldAddr24_2 {id off : Nat} : afieldAddr Try.prog 24 (.ptr id off) 2 = some (.ptr id (off + 2)) := by simp [afieldAddr, tfield, Try.underlying24]
@[simp] theorem fieldAddr24_2c {x : AV} {off : Nat} : afieldAddr Try.prog 24 (.cptr x off) 2 = some (.cptr x (off + 2)) := by simp [afieldAddr, tfield, Try.underlying24]
@[simp] theorem fieldAddr24_3 {id off : Nat} : afieldAddr Try.prog 24 (.ptr id off) 3 = some (.ptr id (off + 3)) := by simp [afieldAddr, tfield, Try.underlying24]
@[simp] theorem fieldAddr24_3c {x : AV} {off : Nat} : afieldAddr Try.prog 24 (.cptr x off) 3 = some (.cptr x (off + 3)) := by simp [afieldAddr, tfield, Try.underlying24]
@[simp] theorem fieldAddr24_4 {id off : Nat} : afieldAddr Try.prog 24 (.ptr id off) 4 = some (.ptr id (off + 4)) := by simp [afieldAddr, tfield, Try.underlying24]
@[simp] theorem fieldAddr24_4c {x : AV} {off : Nat} : afieldAddr Try.prog 24 (.cptr x off) 4 = some (.cptr x (off + 4)) := by simp [afieldAddr, tfield, Try.underlying24]
@[simp] theorem fieldAddr24_5 {id off : Nat} : afieldAddr Try.prog 24 (.ptr id off) 5 = some (.ptr id (off + 5)) := by simp [afieldAddr, tfield, Try.underlying24]
@[simp] theorem fieldAddr24_5c {x : AV} {off : Nat} : afieldAddr Try.prog 24 (.cptr x off) 5 = some (.cptr x (off + 5)) := by simp [afieldAddr, tfield, Try.underlying24]
attribute [simp] Try.underlying25
@[simp] theorem tagg25 : tagg Try.prog 25 = some true := by kernel_rfl
@[simp] theorem tsize25 : tsize Try.prog 25 = some 6 := by kernel_rfl
@[simp] theorem tbytes25 : tbytes Try.prog 25 = some 104 := by kernel_rfl
@[simp] theorem tzero25 : tzero Try.prog 25 = some (.agg zeroCells) := by kernel_rfl
@[simp] theorem fieldAddr25_0 {id off : Nat} : afieldAddr Try.prog 25 (.ptr id off) 0 = some (.ptr id (off + 0)) := by simp [afieldAddr, tfield, Try.underlying25]
@[simp] theorem fieldAddr25_0c {x : AV} {off : Nat} : afieldAddr Try.prog 25 (.cptr x off) 0 = some (.cptr x (off + 0)) := by simp [afieldAddr, tfield, Try.underlying25]
@[simp] theorem fieldAddr25_1 {id off : Nat} : afieldAddr Try.prog 25 (.ptr id off) 1 = some (.ptr id (off + 1)) := by simp [afieldAddr, tfield, Try.underlying25]
@[simp] theorem fieldAddr25_1c {x : AV} {off : Nat} : afieldAddr Try.prog 25 (.cptr x off) 1 = some (.cptr x (off + 1)) := by simp [afieldAddr, tfield, Try.underlying25]
@[simp] theorem fieldAddr25_2 {id off : Nat} : afieldAddr Try.prog 25 (.ptr id off) 2 = some (.ptr id (off + 2)) := by simp [afieldAddr, tfield, Try.underlying25]
@[simp] theorem fieldAddr25_2c {x : AV} {off : Nat} : afieldAddr Try.prog 25 (.cptr x off) 2 = some (.cptr x (off + 2)) := by simp [afieldAddr, tfield, Try.underlying25]
@[simp] theorem fieldAddr25_3 {id off : Nat} : afieldAddr Try.prog 25 (.ptr id off) 3 = some (.ptr id (off + 3)) := by simp [afieldAddr, tfield, Try.underlying25]
@[simp] theorem fieldAddr25_3c {x : AV} {off : Nat} : afieldAddr Try.prog 25 (.cptr x off) 3 = some (.cptr x (off + 3)) := by simp [afieldAddr, tfield, Try.underlying25]
@[simp] theorem fieldAddr25_4 {id off : Nat} : afieldAddr Try.prog 25 (.ptr id off) 4 = some (.ptr id (off + 4)) := by simp [afieldAddr, tfield, Try.underlying25]
@[simp] theorem fieldAddr25_4c {x : AV} {off : Nat} : afieldAddr Try.prog 25 (.cptr x off) 4 = some (.cptr x (off + 4)) := by simp [afieldAddr, tfield, Try.underlying25]
@[simp] theorem fieldAddr25_5 {id off : Nat} : afieldAddr Try.prog 25 (.ptr id off) 5 = some (.ptr id (off + 5)) := by simp [afieldAddr, tfield, Try.underlying25]
@[simp] theorem fieldAddr25_5c {x : AV} {off : Nat} : afieldAddr Try.prog 25 (.cptr x off) 5 = some (.cptr x (off + 5)) := by simp [afieldAddr, tfield, Try.underlying25]
attribute [simp] Try.underlying26
@[simp] theorem tagg26 : tagg Try.prog 26 = some false := by kernel_rfl
@[simp] theorem tsize26 : tsize Try.prog 26 = some 1 := by kernel_rfl
@[simp] theorem tbytes26 : tbytes Try.prog 26 = some 8 := by kernel_rfl
@[simp] theorem tzero26 : tzero Try.prog 26 = some (.sc .nilFunc) := by kernel_rfl
attribute [simp] Try.underlying27
@[simp] theorem tagg27 : tagg Try.prog 27 = some false := by kernel_rfl
@[simp] theorem tsize27 : tsize Try.prog 27 = some 1 := by kernel_rfl
@[simp] theorem tbytes27 : tbytes Try.prog 27 = some 8 := by kernel_rfl
@[simp] theorem tzero27 : tzero Try.prog 27 = some (.sc .nilFunc) := by kernel_rfl
attribute [simp] Try.underlying28
@[simp] theorem tagg28 : tagg Try.prog 28 = some false := by kernel_rfl
@[simp] theorem tsize28 : tsize Try.prog 28 = some 1 := by kernel_rfl
@[simp] theorem tbytes28 : tbytes Try.prog 28 = some 8 := by kernel_rfl
@[simp] theorem tzero28 : tzero Try.prog 28 = some (.sc .nilFunc) := by kernel_rfl
attribute [simp] Try.underlying29
@[simp] theorem tagg29 : tagg Try.prog 29 = some false := by kernel_rfl
@[simp] theorem tsize29 : tsize Try.prog 29 = some 1 := by kernel_rfl
@[simp] theorem tbytes29 : tbytes Try.prog 29 = some 8 := by kernel_rfl
@[simp] theorem tzero29 : tzero Try.prog 29 = some (.sc (.int .i64 0)) := by kernel_rfl
attribute [simp] Try.underlying30
@[simp] theorem tagg30 : tagg Try.prog 30 = some false := by kernel_rfl
@[simp] theorem tsize30 : tsize Try.prog 30 = some 1 := by kernel_rfl
@[simp] theorem tbytes30 : tbytes Try.prog 30 = some 8 := by kernel_rfl
@[simp] theorem tzero30 : tzero Try.prog 30 = some (.sc .nilFunc) := by kernel_rfl
attribute [simp] Try.underlying31
@[simp] theorem tagg31 : tagg Try.prog 31 = some false := by kernel_rfl
@[simp] theorem tsize31 : tsize Try.prog 31 = some 1 := by kernel_rfl
@[simp] theorem tbytes31 : tbytes Try.prog 31 = some 8 := by kernel_rfl
@[simp] theorem tzero31 : tzero Try.prog 31 = some (.sc .nilFunc) := by kernel_rfl
attribute [simp] Try.underlying32
@[simp] theorem tagg32 : tagg Try.prog 32 = some false := by kernel_rfl
@[simp] theorem tsize32 : tsize Try.prog 32 = some 1 := by kernel_rfl
@[simp] theorem tbytes32 : tbytes Try.prog 32 = some 8 := by kernel_rfl
@[simp] theorem tzero32 : tzero Try.prog 32 = some (.sc .nilFunc) := by kernel_rfl
attribute [simp] Try.underlying33
@[simp] theorem tagg33 : tagg Try.prog 33 = some false := by kernel_rfl
@[simp] theorem tsize33 : tsize Try.prog 33 = some 1 := by kernel_rfl
@[simp] theorem tbytes33 : tbytes Try.prog 33 = some 8 := by kernel_rfl
@[simp] theorem tzero33 : tzero Try.prog 33 = some (.sc .nilFunc) := by kernel_rfl
attribute [simp] Try.underlying34
@[simp] theorem tagg34 : tagg Try.prog 34 = some false := by kernel_rfl
@[simp] theorem tsize34 : tsize Try.prog 34 = some 1 := by kernel_rfl
@[simp] theorem tbytes34 : tbytes Try.prog 34 = some 8 := by kernel_rfl
@[simp] theorem tzero34 : tzero Try.prog 34 = some (.sc .nilFunc) := by kernel_rfl
attribute [simp] Try.underlying36
@[simp] theorem tagg36 : tagg Try.prog 36 = some false := by kernel_rfl
@[simp] theorem tsize36 : tsize Try.prog 36 = some 1 := by kernel_rfl
@[simp] theorem tbytes36 : tbytes Try.prog 36 = some 8 := by kernel_rfl
@[simp] theorem tzero36 : tzero Try.prog 36 = some (.sc .nilFunc) := by kernel_rfl
attribute [simp] Try.underlying37
@[simp] theorem tagg37 : tagg Try.prog 37 = some false := by kernel_rfl
@[simp] theorem tsize37 : tsize Try.prog 37 = some 1 := by kernel_rfl
@[simp] theorem tbytes37 : tbytes Try.prog 37 = some 8 := by kernel_rfl
@[simp] theorem tzero37 : tzero Try.prog 37 = some (.sc .nilFunc) := by kernel_rfl
attribute [simp] Try.underlying38
@[simp] theorem tagg38 : tagg Try.prog 38 = some false := by kernel_rfl
@[simp] theorem tsize38 : tsize Try.prog 38 = some 1 := by kernel_rfl
@[simp] theorem tbytes38 : tbytes Try.prog 38 = some 8 := by kernel_rfl
@[simp] theorem tzero38 : tzero Try.prog 38 = some (.sc .nilFunc) := by kernel_rfl
attribute [simp] Try.underlying39
@[simp] theorem tagg39 : tagg Try.prog 39 = some false := by kernel_rfl
@[simp] theorem tsize39 : tsize Try.prog 39 = some 1 := by kernel_rfl
@[simp] theorem tbytes39 : tbytes Try.prog 39 = some 8 := by kernel_rfl
@[simp] theorem tzero39 : tzero Try.prog 39 = some (.sc .nilFunc) := by kernel_rfl
attribute [simp] Try.underlying40
@[simp] theorem tagg40 : tagg Try.prog 40 = some false := by kernel_rfl
@[simp] theorem tsize40 : tsize Try.prog 40 = some 1 := by kernel_rfl
@[simp] theorem tbytes40 : tbytes Try.prog 40 = some 8 := by kernel_rfl
@[simp] theorem tzero40 : tzero Try.prog 40 = some (.sc .nilFunc) := by kernel_rfl
attribute [simp] Try.underlying41
@[simp] theorem tagg41 : tagg Try.prog 41 = some false := by kernel_rfl
@[simp] theorem tsize41 : tsize Try.prog 41 = some 1 := by kernel_rfl
@[simp] theorem tbytes41 : tbytes Try.prog 41 = some 8 := by kernel_rfl
@[simp] theorem tzero41 : tzero Try.prog 41 = some (.sc .nilFunc) := by kernel_rfl
attribute [simp] Try.underlying42
@[simp] theorem tagg42 : tagg Try.prog 42 = some false := by kernel_rfl
@[simp] theorem tsize42 : tsize Try.prog 42 = some 1 := by kernel_rfl
@[simp] theorem tbytes42 : tbytes Try.prog 42 = some 8 := by kernel_rfl
@[simp] theorem tzero42 : tzero Try.prog 42 = some (.sc .nilFunc) := by kernel_rfl
attribute [simp] Try.underlying43
@[simp] theorem tagg43 : tagg Try.prog 43 = some false := by kernel_rfl
@[simp] theorem tsize43 : tsize Try.prog 43 = some 1 := by kernel_rfl
@[simp] theorem tbytes43 : tbytes Try.prog 43 = some 8 := by kernel_rfl
@[simp] theorem tzero43 : tzero Try.prog 43 = some (.sc .nilFunc) := by kernel_rfl
attribute [simp] Try.underlying44
@[simp] theorem tagg44 : tagg Try.prog 44 = some false := by kernel_rfl
@[simp] theorem tsize44 : tsize Try.prog 44 = some 1 := by kernel_rfl
@[simp] theorem tbytes44 : tbytes Try.prog 44 = some 8 := by kernel_rfl
@[simp] theorem tzero44 : tzero Try.prog 44 = some (.sc .nilFunc) := by kernel_rfl
attribute [simp] Try.underlying45
@[simp] theorem tagg45 : tagg Try.prog 45 = some false := by kernel_rfl
@[simp] theorem tsize45 : tsize Try.prog 45 = some 1 := by kernel_rfl
@[simp] theorem tbytes45 : tbytes Try.prog 45 = some 8 := by kernel_rfl
@[simp] theorem tzero45 : tzero Try.prog 45 = some (.sc .nilFunc) := by kernel_rfl
attribute [simp] Try.underlying46
@[simp] theorem tagg46 : tagg Try.prog 46 = some false := by kernel_rfl
@[simp] theorem tsize46 : tsize Try.prog 46 = some 1 := by kernel_rfl
@[simp] theorem tbytes46 : tbytes Try.prog 46 = some 8 := by kernel_rfl
@[simp] theorem tzero46 : tzero Try.prog 46 = some (.sc .nilFunc) := by kernel_rfl
attribute [simp] Try.underlying47
@[simp] theorem tagg47 : tagg Try.prog 47 = some false := by kernel_rfl
@[simp] theorem tsize47 : tsize Try.prog 47 = some 1 := by kernel_rfl
@[simp] theorem tbytes47 : tbytes Try.prog 47 = some 8 := by kernel_rfl
@[simp] theorem tzero47 : tzero Try.prog 47 = some (.sc .nilFunc) := by kernel_rfl
attribute [simp] Try.underlying48
@[simp] theorem tagg48 : tagg Try.prog 48 = some false := by kernel_rfl
@[simp] theorem tsize48 : tsize Try.prog 48 = some 1 := by kernel_rfl
@[simp] theorem tbytes48 : tbytes Try.prog 48 = some 8 := by kernel_rfl
@[simp] theorem tzero48 : tzero Try.prog 48 = some (.sc .nilFunc) := by kernel_rfl
attribute [simp] Try.underlying49
@[simp] theorem tagg49 : tagg Try.prog 49 = some false := by kernel_rfl
@[simp] theorem tsize49 : tsize Try.prog 49 = some 1 := by kernel_rfl
@[simp] theorem tbytes49 : tbytes Try.prog 49 = some 8 := by kernel_rfl
@[simp] theorem tzero49 : tzero Try.prog 49 = some (.sc .nilFunc) := by kernel_rfl
attribute [simp] Try.underlying50
@[simp] theorem tagg50 : tagg Try.prog 50 = some false := by kernel_rfl
@[simp] theorem tsize50 : tsize Try.prog 50 = some 1 := by kernel_rfl
@[simp] theorem tbytes50 : tbytes Try.prog 50 = some 8 := by kernel_rfl
@[simp] theorem tzero50 : tzero Try.prog 50 = some (.sc .nilFunc) := by kernel_rfl
attribute [simp] Try.underlying51
@[simp] theorem tagg51 : tagg Try.prog 51 = some false := by kernel_rfl
@[simp] theorem tsize51 : tsize Try.prog 51 = some 1 := by kernel_rfl
@[simp] theorem tbytes51 : tbytes Try.prog 51 = some 8 := by kernel_rfl
@[simp] theorem tzero51 : tzero Try.prog 51 = some (.sc .nilFunc) := by kernel_rfl
attribute [simp] Try.underlying53
@[simp] theorem tagg53 : tagg Try.prog 53 = some false := by kernel_rfl
@[simp] theorem tsize53 : tsize Try.prog 53 = some 1 := by kernel_rfl
@[simp] theorem tbytes53 : tbytes Try.prog 53 = some 8 := by kernel_rfl
@[simp] theorem tzero53 : tzero Try.prog 53 = some (.sc .nilFunc) := by kernel_rfl
attribute [simp] Try.underlying54
@[simp] theorem tagg54 : tagg Try.prog 54 = some true := by kernel_rfl
@[simp] theorem tsize54 : tsize Try.prog 54 = some 3 := by kernel_rfl
@[simp] theorem tbytes54 : tbytes Try.prog 54 = some 56 := by kernel_rfl
@[simp] theorem tzero54 : tzero Try.prog 54 = some (.agg [.emp 0, .emp 0, .sc (.int .i64 0)]) := by kernel_rfl
@[simp] theorem fieldAddr54_0 {id off : Nat} : afieldAddr Try.prog 54 (.ptr id off) 0 = some (.ptr id (off + 0)) := by simp [afieldAddr, tfield, Try.underlying54]
@[simp] theorem fieldAddr54_0c {x : AV} {off : Nat} : afieldAddr Try.prog 54 (.cptr x off) 0 = some (.cptr x (off + 0)) := by simp [afieldAddr, tfield, Try.underlying54]
@[simp] theorem fieldAddr54_1 {id off : Nat} : afieldAddr Try.prog 54 (.ptr id off) 1 = some (.ptr id (off + 1)) := by simp [afieldAddr, tfield, Try.underlying54]
@[simp] theorem fieldAddr54_1c {x : AV} {off : Nat} : afieldAddr Try.prog 54 (.cptr x off) 1 = some (.cptr x (off + 1)) := by simp [afieldAddr, tfield, Try.underlying54]
@[simp] theorem fieldAddr54_2 {id off : Nat} : afieldAddr Try.prog 54 (.ptr id off) 2 = some (.ptr id (off + 2)) := by simp [afieldAddr, tfield, Try.underlying54]
@[simp] theorem fieldAddr54_2c {x : AV} {off : Nat} : afieldAddr Try.prog 54 (.cptr x off) 2 = some (.cptr x (off + 2)) := by simp [afieldAddr, tfield, Try.underlying54]
attribute [simp] Try.underlying55
@[simp] theorem tagg55 : tagg Try.prog 55 = some true := by kernel_rfl
@[simp] theorem tsize55 : tsize Try.prog 55 = some 3 := by kernel_rfl
@[simp] theorem tbytes55 : tbytes Try.prog 55 = some 56 := by kernel_rfl
@[simp] theorem tzero55 : tzero Try.prog 55 = some (.agg [.emp 0, .emp 0, .sc (.int .i64 0)]) := by kernel_rfl
@[simp] theorem fieldAddr55_0 {id off : Nat} : afieldAddr Try.prog 55 (.ptr id off) 0 = some (.ptr id (off + 0)) := by simp [afieldAddr, tfield, Try.underlying55]
@[simp] theorem fieldAddr55_0c {x : AV} {off : Nat} : afieldAddr Try.prog 55 (.cptr x off) 0 = some (.cptr x (off + 0)) := by simp [afieldAddr, tfield, Try.underlying55]
@[simp] theorem fieldAddr55_1 {id off : Nat} : afieldAddr Try.prog 55 (.ptr id off) 1 = some (.ptr id (off + 1)) := by simp [afieldAddr, tfield, Try.underlying55]
@[simp] theorem fieldAddr55_1c {x : AV} {off : Nat} : afieldAddr Try.prog 55 (.cptr x off) 1 = some (.cptr x (off + 1)) := by simp [afieldAddr, tfield, Try.underlying55]
@[simp] theorem fieldAddr55_2 {id off : Nat} : afieldAddr Try.prog 55 (.ptr id off) 2 = some (.ptr id (off + 2)) := by simp [afieldAddr, tfield, Try.underlying55]
@[simp] theorem fieldAddr55_2c {x : AV} {off : Nat} : afieldAddr Try.prog 55 (.cptr x off) 2 = some (.cptr x (off + 2)) := by simp [afieldAddr, tfield, Try.underlying55]
attribute [simp] Try.underlying56
@[simp] theorem tagg56 : tagg Try.prog 56 = some false := by kernel_rfl
@[simp] theorem tsize56 : tsize Try.prog 56 = some 1 := by kernel_rfl
@[simp] theorem tbytes56 : tbytes Try.prog 56 = some 8 := by kernel_rfl
@[simp] theorem tzero56 : tzero Try.prog 56 = some (.sc (.pointer Option.none)) := by kernel_rfl
attribute [simp] Try.underlying57
@[simp] theorem tagg57 : tagg Try.prog 57 = some false := by kernel_rfl
@[simp] theorem tsize57 : tsize Try.prog 57 = some 1 := by kernel_rfl
@[simp] theorem tbytes57 : tbytes Try.prog 57 = some 8 := by kernel_rfl
@[simp] theorem tzero57 : tzero Try.prog 57 = some (.sc .nilFunc) := by kernel_rfl
attribute [simp] Try.underlying58
@[simp] theorem tagg58 : tagg Try.prog 58 = some false := by kernel_rfl
@[simp] theorem tsize58 : tsize Try.prog 58 = some 1 := by kernel_rfl
@[simp] theorem tbytes58 : tbytes Try.prog 58 = some 8 := by kernel_rfl
@[simp] theorem tzero58 : tzero Try.prog 58 = some (.sc .nilFunc) := by kernel_rfl
attribute [simp] Try.underlying59
@[simp] theorem tagg59 : tagg Try.prog 59 = some false := by kernel_rfl
@[simp] theorem tsize59 : tsize Try.prog 59 = some 1 := by kernel_rfl
@[simp] theorem tbytes59 : tbytes Try.prog 59 = some 8 := by kernel_rfl
@[simp] theorem tzero59 : tzero Try.prog 59 = some (.sc .nilFunc) := by kernel_rfl
attribute [simp] Try.underlying60
@[simp] theorem tagg60 : tagg Try.prog 60 = some false := by kernel_rfl
@[simp] theorem tsize60 : tsize Try.prog 60 = some 1 := by kernel_rfl
@[simp] theorem tbytes60 : tbytes Try.prog 60 = some 8 := by kernel_rfl
@[simp] theorem tzero60 : tzero Try.prog 60 = some (.sc .nilFunc) := by kernel_rfl
attribute [simp] Try.underlying61
@[simp] theorem tagg61 : tagg Try.prog 61 = some false := by kernel_rfl
@[simp] theorem tsize61 : tsize Try.prog 61 = some 1 := by kernel_rfl
@[simp] theorem tbytes61 : tbytes Try.prog 61 = some 8 := by kernel_rfl
@[simp] theorem tzero61 : tzero Try.prog 61 = some (.sc .nilFunc) := by kernel_rfl
attribute [simp] Try.underlying63
@[simp] theorem tagg63 : tagg Try.prog 63 = some false := by kernel_rfl
@[simp] theorem tsize63 : tsize Try.prog 63 = some 1 := by kernel_rfl
@[simp] theorem tbytes63 : tbytes Try.prog 63 = some 8 := by kernel_rfl
@[simp] theorem tzero63 : tzero Try.prog 63 = some (.sc .nilFunc) := by kernel_rfl
attribute [simp] Try.underlying64
@[simp] theorem tagg64 : tagg Try.prog 64 = some false := by kernel_rfl
@[simp] theorem tsize64 : tsize Try.prog 64 = some 1 := by kernel_rfl
@[simp] theorem tbytes64 : tbytes Try.prog 64 = some 8 := by kernel_rfl
@[simp] theorem tzero64 : tzero Try.prog 64 = some (.sc .nilFunc) := by kernel_rfl
attribute [simp] Try.underlying65
@[simp] theorem tagg65 : tagg Try.prog 65 = some false := by kernel_rfl
@[simp] theorem tsize65 : tsize Try.prog 65 = some 1 := by kernel_rfl
@[simp] theorem tbytes65 : tbytes Try.prog 65 = some 8 := by kernel_rfl
@[simp] theorem tzero65 : tzero Try.prog 65 = some (.sc .nilFunc) := by kernel_rfl
attribute [simp] Try.underlying66
@[simp] theorem tagg66 : tagg Try.prog 66 = some false := by kernel_rfl
@[simp] theorem tsize66 : tsize Try.prog 66 = some 1 := by kernel_rfl
@[simp] theorem tbytes66 : tbytes Try.prog 66 = some 8 := by kernel_rfl
@[simp] theorem tzero66 : tzero Try.prog 66 = some (.sc .nilFunc) := by kernel_rfl
attribute [simp] Try.underlying67
@[simp] theorem tagg67 : tagg Try.prog 67 = some false := by kernel_rfl
@[simp] theorem tsize67 : tsize Try.prog 67 = some 1 := by kernel_rfl
@[simp] theorem tbytes67 : tbytes Try.prog 67 = some 24 := by kernel_rfl
@[simp] theorem tzero67 : tzero Try.prog 67 = some (.emp 0) := by kernel_rfl
@[simp] theorem telem67 : telem Try.prog 67 = some 23 := by kernel_rfl
attribute [simp] Try.underlying68
@[simp] theorem tagg68 : tagg Try.prog 68 = some false := by kernel_rfl
@[simp] theorem tsize68 : tsize Try.prog 68 = some 1 := by kernel_rfl
@[simp] theorem tbytes68 : tbytes Try.prog 68 = some 8 := by kernel_rfl
@[simp] theorem tzero68 : tzero Try.prog 68 = some (.sc .nilFunc) := by kernel_rfl
attribute [simp] Try.underlying69
@[simp] theorem tagg69 : tagg Try.prog 69 = some false := by kernel_rfl
@[simp] theorem tsize69 : tsize Try.prog 69 = some 1 := by kernel_rfl
@[simp] theorem tbytes69 : tbytes Try.prog 69 = some 8 := by kernel_rfl
@[simp] theorem tzero69 : tzero Try.prog 69 = some (.sc .nilFunc) := by kernel_rfl
attribute [simp] Try.underlying70
@[simp] theorem tagg70 : tagg Try.prog 70 = some false := by kernel_rfl
@[simp] theorem tsize70 : tsize Try.prog 70 = some 1 := by kernel_rfl
@[simp] theorem tbytes70 : tbytes Try.prog 70 = some 8 := by kernel_rfl
@[simp] theorem tzero70 : tzero Try.prog 70 = some (.sc .nilFunc) := by kernel_rfl
attribute [simp] Try.underlying71
@[simp] theorem tagg71 : tagg Try.prog 71 = some false := by kernel_rfl
@[simp] theorem tsize71 : tsize Try.prog 71 = some 1 := by kernel_rfl
@[simp] theorem tbytes71 : tbytes Try.prog 71 = some 8 := by kernel_rfl
@[simp] theorem tzero71 : tzero Try.prog 71 = some (.sc .nilFunc) := by kernel_rfl
attribute [simp] Try.underlying72
@[simp] theorem tagg72 : tagg Try.prog 72 = some false := by kernel_rfl
@[simp] theorem tsize72 : tsize Try.prog 72 = some 1 := by kernel_rfl
@[simp] theorem tbytes72 : tbytes Try.prog 72 = some 8 := by kernel_rfl
@[simp] theorem tzero72 : tzero Try.prog 72 = some (.sc .nilFunc) := by kernel_rfl
attribute [simp] Try.underlying73
@[simp] theorem tagg73 : tagg Try.prog 73 = some false := by kernel_rfl
@[simp] theorem tsize73 : tsize Try.prog 73 = some 1 := by kernel_rfl
@[simp] theorem tbytes73 : tbytes Try.prog 73 = some 8 := by kernel_rfl
@[simp] theorem tzero73 : tzero Try.prog 73 = some (.sc .nilFunc) := by kernel_rfl
attribute [simp] Try.underlying74
@[simp] theorem tagg74 : tagg Try.prog 74 = some false := by kernel_rfl
@[simp] theorem tsize74 : tsize Try.prog 74 = some 1 := by kernel_rfl
@[simp] theorem tbytes74 : tbytes Try.prog 74 = some 8 := by kernel_rfl
@[simp] theorem tzero74 : tzero Try.prog 74 = some (.sc .nilFunc) := by kernel_rfl
attribute [simp] Try.underlying75
@[simp] theorem tagg75 : tagg Try.prog 75 = some false := by kernel_rfl
@[simp] theorem tsize75 : tsize Try.prog 75 = some 1 := by kernel_rfl
@[simp] theorem tbytes75 : tbytes Try.prog 75 = some 8 := by kernel_rfl
@[simp] theorem tzero75 : tzero Try.prog 75 = some (.sc .nilFunc) := by kernel_rfl
attribute [simp] Try.underlying81
@[simp] theorem tagg81 : tagg Try.prog 81 = some false := by kernel_rfl
@[simp] theorem tsize81 : tsize Try.prog 81 = some 1 := by kernel_rfl
@[simp] theorem tbytes81 : tbytes Try.prog 81 = some 8 := by kernel_rfl
@[simp] theorem tzero81 : tzero Try.prog 81 = some (.sc .nilFunc) := by kernel_rfl
attribute [simp] Try.underlying82
@[simp] theorem tagg82 : tagg Try.prog 82 = some false := by kernel_rfl
@[simp] theorem tsize82 : tsize Try.prog 82 = some 1 := by kernel_rfl
@[simp] theorem tbytes82 : tbytes Try.prog 82 = some 4 := by kernel_rfl
@[simp] theorem tzero82 : tzero Try.prog 82 = some (.sc (.int .u32 0)) := by kernel_rfl
attribute [simp] Try.underlying85
@[simp] theorem tagg85 : tagg Try.prog 85 = some false := by kernel_rfl
@[simp] theorem tsize85 : tsize Try.prog 85 = some 1 := by kernel_rfl
@[simp] theorem tbytes85 : tbytes Try.prog 85 = some 8 := by kernel_rfl
@[simp] theorem tzero85 : tzero Try.prog 85 = some (.sc .nilFunc) := by kernel_rfl
attribute [simp] Try.underlying86
@[simp] theorem tagg86 : tagg Try.prog 86 = some false := by kernel_rfl
@[simp] theorem tsize86 : tsize Try.prog 86 = some 1 := by kernel_rfl
@[simp] theorem tbytes86 : tbytes Try.prog 86 = some 8 := by kernel_rfl
@[simp] theorem tzero86 : tzero Try.prog 86 = some (.sc (.pointer Option.none)) := by kernel_rfl
theorem el22 : ElemOf Try.prog 22 1 false := ⟨⟨3, 8, .sc (.int .i64 0), telem22, tsize3, tbytes3, tzero3, tagg3, by kernel_rfl, by decide, by kernel_rfl⟩, by decide⟩
theorem el23 : ElemOf Try.prog 23 6 true := ⟨⟨25, 104, .agg zeroCells, telem23, tsize25, tbytes25, tzero25, tagg25, by kernel_rfl, by decide, by kernel_rfl⟩, by decide⟩
theorem el67 : ElemOf Try.prog 67 1 false := ⟨⟨23, 24, .emp 0, telem67, tsize23, tbytes23, tzero23, tagg23, by kernel_rfl, by decide, by kernel_rfl⟩, by decide⟩
end Go.Proofs.Ytipmoeclkamciaa
