/- Part of a proof. -/
import Derived.Test.YthegkphhfleghaaGreatCP5
import Derived.Test.YthegkphhfleghaaGreatRows
set_option maxHeartbeats 64000000
set_option linter.unusedSimpArgs false
set_option linter.unusedVariables false
set_option linter.unusedSectionVars false
namespace Go.Proofs.YthegkphhfleghaaGreat
open Go.V
attribute [simp] fzx_f fzx_t
def zeroCells:List AV:=[.sc (.int .i64 0),.sc (.int .i64 0),.sc (.string ⟨⟨[]⟩⟩),.emp 0,.emp 0,.emp 0]
@[simp] theorem Asu:zeroCells.length = 6:=rfl
@[simp] theorem Awu:List.take 6 zeroCells = zeroCells:=rfl
@[simp] theorem Awv:List.drop 6 zeroCells = []:=rfl
@[simp] theorem A25:AV.okc (.sc .nilFunc) = true:=Eq.trans rfl rfl
@[simp] theorem A03:AV.cells (.sc .nilFunc) = [.sc .nilFunc]:=Eq.trans rfl rfl
@[simp] theorem A24 {x:Option Addr}:AV.okc (.sc (.pointer x)) = true:=Eq.trans rfl rfl
@[simp] theorem A02 {x:Option Addr}:AV.cells (.sc (.pointer x)) = [.sc (.pointer x)]:=Eq.trans rfl rfl
@[simp] theorem A8f {x:Option Nat}:AV.okc (.sc (.map x)) = true:=Eq.trans rfl rfl
@[simp] theorem A6i {x:Option Nat}:AV.cells (.sc (.map x)) = [.sc (.map x)]:=Eq.trans rfl rfl
@[simp] theorem A1v {x:Nat}:AV.okc (.mp x) = true:=Eq.trans rfl rfl
@[simp] theorem Aqv {x:Nat}:AV.cells (.mp x) = [.mp x]:=Eq.trans rfl rfl
attribute [simp] Tryz.underlying2
@[simp] theorem tagg2:tagg Tryz.prog 2 = some false:=by kernel_rfl
@[simp] theorem tsize2:tsize Tryz.prog 2 = some 1:=by kernel_rfl
attribute [simp] Tryz.underlying3
@[simp] theorem tagg3:tagg Tryz.prog 3 = some false:=by kernel_rfl
@[simp] theorem Abv:tsize Tryz.prog 3 = some 1:=by kernel_rfl
@[simp] theorem A2v:tbytes Tryz.prog 3 = some 8:=by kernel_rfl
@[simp] theorem A1s:tzero Tryz.prog 3 = some (.sc (.int .i64 0)):=by kernel_rfl
attribute [simp] Tryz.underlying4
@[simp] theorem tagg4:tagg Tryz.prog 4 = some false:=by kernel_rfl
@[simp] theorem tsize4:tsize Tryz.prog 4 = some 1:=by kernel_rfl
@[simp] theorem A1r:tzero Tryz.prog 4 = some (.sc (.bool false)):=by kernel_rfl
attribute [simp] Tryz.underlying5
@[simp] theorem tagg5:tagg Tryz.prog 5 = some false:=by kernel_rfl
@[simp] theorem App:tsize Tryz.prog 5 = some 1:=by kernel_rfl
@[simp] theorem A2u:tbytes Tryz.prog 5 = some 1:=by kernel_rfl
@[simp] theorem A4u:tzero Tryz.prog 5 = some (.sc (.int .u8 0)):=by kernel_rfl
attribute [simp] Tryz.underlying9
@[simp] theorem tagg9:tagg Tryz.prog 9 = some false:=by kernel_rfl
@[simp] theorem A4w:tsize Tryz.prog 9 = some 1:=by kernel_rfl
@[simp] theorem A2t:tbytes Tryz.prog 9 = some 16:=by kernel_rfl
@[simp] theorem A4t:tzero Tryz.prog 9 = some (.sc (.string ⟨⟨[]⟩⟩)):=by kernel_rfl
attribute [simp] Tryz.underlying22
@[simp] theorem tagg22:tagg Tryz.prog 22 = some false:=by kernel_rfl
@[simp] theorem A79:tsize Tryz.prog 22 = some 1:=by kernel_rfl
@[simp] theorem A2s:telem Tryz.prog 22 = some 3:=by kernel_rfl
@[simp] theorem nofz22:nofz Tryz.prog 22 = false:=by kernel_rfl
attribute [simp] Tryz.underlying23
@[simp] theorem tagg23:tagg Tryz.prog 23 = some false:=by kernel_rfl
@[simp] theorem As9:tsize Tryz.prog 23 = some 1:=by kernel_rfl
@[simp] theorem A7q:tzero Tryz.prog 23 = some (.emp 0):=by kernel_rfl
@[simp] theorem A2r:telem Tryz.prog 23 = some 25:=by kernel_rfl
@[simp] theorem nofz23:nofz Tryz.prog 23 = false:=by kernel_rfl
attribute [simp] Tryz.underlying25
@[simp] theorem A40:tagg Tryz.prog 25 = some true:=by kernel_rfl
@[simp] theorem Ab8:tsize Tryz.prog 25 = some 6:=by kernel_rfl
@[simp] theorem Ax0:tbytes Tryz.prog 25 = some 104:=by kernel_rfl
@[simp] theorem A2g:tzero Tryz.prog 25 = some (.agg zeroCells):=by kernel_rfl
@[simp] theorem A0m {id off:Nat}:afieldAddr Tryz.prog 25 (.ptr id off) 0 = some (.ptr id (off + 0)):=by simp [afieldAddr,tfield]
@[simp] theorem Aw2 {x:AV} {off:Nat}:afieldAddr Tryz.prog 25 (.cptr x off) 0 = some (.cptr x (off + 0)):=by simp [afieldAddr,tfield]
@[simp] theorem A0l {id off:Nat}:afieldAddr Tryz.prog 25 (.ptr id off) 1 = some (.ptr id (off + 1)):=by simp [afieldAddr,tfield]
@[simp] theorem A0k {id off:Nat}:afieldAddr Tryz.prog 25 (.ptr id off) 2 = some (.ptr id (off + 2)):=by simp [afieldAddr,tfield]
@[simp] theorem A0j {id off:Nat}:afieldAddr Tryz.prog 25 (.ptr id off) 3 = some (.ptr id (off + 3)):=by simp [afieldAddr,tfield]
@[simp] theorem A0i {id off:Nat}:afieldAddr Tryz.prog 25 (.ptr id off) 4 = some (.ptr id (off + 4)):=by simp [afieldAddr,tfield]
@[simp] theorem A0h {id off:Nat}:afieldAddr Tryz.prog 25 (.ptr id off) 5 = some (.ptr id (off + 5)):=by simp [afieldAddr,tfield]
attribute [simp] Tryz.underlying26
@[simp] theorem tagg26:tagg Tryz.prog 26 = some false:=by kernel_rfl
@[simp] theorem A78:tsize Tryz.prog 26 = some 1:=by kernel_rfl
@[simp] theorem A2q:telem Tryz.prog 26 = some 28:=by kernel_rfl
@[simp] theorem nofz26:nofz Tryz.prog 26 = false:=by kernel_rfl
attribute [simp] Tryz.underlying28
@[simp] theorem A4z:tagg Tryz.prog 28 = some true:=by kernel_rfl
@[simp] theorem Ab7:tsize Tryz.prog 28 = some 11:=by kernel_rfl
@[simp] theorem Axz:tbytes Tryz.prog 28 = some 184:=by kernel_rfl
@[simp] theorem A2f:tzero Tryz.prog 28 = some (.agg [.sc (.int .i64 0),.sc (.int .i64 0),.sc (.string ⟨⟨[]⟩⟩),.sc (.int .i64 0),.sc (.int .i64 0),.sc (.string ⟨⟨[]⟩⟩),.emp 0,.emp 0,.emp 0,.emp 0,.emp 0]):=by kernel_rfl
@[simp] theorem A0g {id off:Nat}:afieldAddr Tryz.prog 28 (.ptr id off) 0 = some (.ptr id (off + 0)):=by simp [afieldAddr,tfield]
@[simp] theorem A0f {id off:Nat}:afieldAddr Tryz.prog 28 (.ptr id off) 1 = some (.ptr id (off + 1)):=by simp [afieldAddr,tfield]
@[simp] theorem A0e {id off:Nat}:afieldAddr Tryz.prog 28 (.ptr id off) 2 = some (.ptr id (off + 2)):=by simp [afieldAddr,tfield]
@[simp] theorem A0d {id off:Nat}:afieldAddr Tryz.prog 28 (.ptr id off) 3 = some (.ptr id (off + 3)):=by simp [afieldAddr,tfield]
@[simp] theorem A0c {id off:Nat}:afieldAddr Tryz.prog 28 (.ptr id off) 4 = some (.ptr id (off + 9)):=by simp [afieldAddr,tfield]
@[simp] theorem A0b {id off:Nat}:afieldAddr Tryz.prog 28 (.ptr id off) 5 = some (.ptr id (off + 10)):=by simp [afieldAddr,tfield]
attribute [simp] Tryz.underlying29
@[simp] theorem tagg29:tagg Tryz.prog 29 = some false:=by kernel_rfl
@[simp] theorem A77:tsize Tryz.prog 29 = some 1:=by kernel_rfl
@[simp] theorem A2p:telem Tryz.prog 29 = some 5:=by kernel_rfl
@[simp] theorem nofz29:nofz Tryz.prog 29 = false:=by kernel_rfl
attribute [simp] Tryz.underlying31
@[simp] theorem tagg31:tagg Tryz.prog 31 = some false:=by kernel_rfl
@[simp] theorem A76:tsize Tryz.prog 31 = some 1:=by kernel_rfl
attribute [simp] Tryz.underlying32
@[simp] theorem tagg32:tagg Tryz.prog 32 = some false:=by kernel_rfl
@[simp] theorem A75:tsize Tryz.prog 32 = some 1:=by kernel_rfl
@[simp] theorem tagg33:tagg Tryz.prog 33 = some false:=by kernel_rfl
@[simp] theorem A74:tsize Tryz.prog 33 = some 1:=by kernel_rfl
@[simp] theorem A7p:tzero Tryz.prog 33 = some (.sc (.int .i64 0)):=by kernel_rfl
attribute [simp] Tryz.underlying36
@[simp] theorem tagg36:tagg Tryz.prog 36 = some false:=by kernel_rfl
@[simp] theorem A73:tsize Tryz.prog 36 = some 1:=by kernel_rfl
@[simp] theorem A7o:tzero Tryz.prog 36 = some (.sc (.pointer Option.none)):=by kernel_rfl
attribute [simp] Tryz.underlying42
@[simp] theorem Atg:tagg Tryz.prog 42 = some true:=by kernel_rfl
@[simp] theorem Abl:tsize Tryz.prog 42 = some 2:=by kernel_rfl
@[simp] theorem Axy:tbytes Tryz.prog 42 = some 16:=by kernel_rfl
@[simp] theorem As8:tzero Tryz.prog 42 = some (.agg [.sc (.int .i64 0),.sc (.int .i64 0)]):=by kernel_rfl
@[simp] theorem A0a {id off:Nat}:afieldAddr Tryz.prog 42 (.ptr id off) 0 = some (.ptr id (off + 0)):=by simp [afieldAddr,tfield]
@[simp] theorem Az9 {id off:Nat}:afieldAddr Tryz.prog 42 (.ptr id off) 1 = some (.ptr id (off + 1)):=by simp [afieldAddr,tfield]
attribute [simp] Tryz.underlying48
attribute [simp] Tryz.underlying49
@[simp] theorem tagg49:tagg Tryz.prog 49 = some false:=by kernel_rfl
@[simp] theorem A72:tsize Tryz.prog 49 = some 1:=by kernel_rfl
@[simp] theorem Ate:tmap Tryz.prog 49 = some (9,3):=by kernel_rfl
attribute [simp] Tryz.underlying50
@[simp] theorem tagg50:tagg Tryz.prog 50 = some false:=by kernel_rfl
@[simp] theorem A71:tsize Tryz.prog 50 = some 1:=by kernel_rfl
@[simp] theorem A2o:telem Tryz.prog 50 = some 87:=by kernel_rfl
@[simp] theorem nofz50:nofz Tryz.prog 50 = true:=by kernel_rfl
attribute [simp] Tryz.underlying51
@[simp] theorem tagg51:tagg Tryz.prog 51 = some false:=by kernel_rfl
@[simp] theorem A70:tsize Tryz.prog 51 = some 1:=by kernel_rfl
@[simp] theorem A2n:telem Tryz.prog 51 = some 9:=by kernel_rfl
@[simp] theorem nofz51:nofz Tryz.prog 51 = false:=by kernel_rfl
attribute [simp] Tryz.underlying53
@[simp] theorem A7n:tzero Tryz.prog 53 = some (.agg [.sc (.int .i64 0),.emp 0,.emp 0,.sc (.map Option.none)]):=by kernel_rfl
@[simp] theorem Az8 {id off:Nat}:afieldAddr Tryz.prog 53 (.ptr id off) 0 = some (.ptr id (off + 0)):=by simp [afieldAddr,tfield]
@[simp] theorem Az7 {id off:Nat}:afieldAddr Tryz.prog 53 (.ptr id off) 1 = some (.ptr id (off + 1)):=by simp [afieldAddr,tfield]
@[simp] theorem Az6 {id off:Nat}:afieldAddr Tryz.prog 53 (.ptr id off) 2 = some (.ptr id (off + 2)):=by simp [afieldAddr,tfield]
@[simp] theorem Az5 {id off:Nat}:afieldAddr Tryz.prog 53 (.ptr id off) 3 = some (.ptr id (off + 3)):=by simp [afieldAddr,tfield]
attribute [simp] Tryz.underlying57
@[simp] theorem tagg57:tagg Tryz.prog 57 = some false:=by kernel_rfl
@[simp] theorem A7z:tsize Tryz.prog 57 = some 1:=by kernel_rfl
@[simp] theorem Ajb:tmap Tryz.prog 57 = some (3,42):=by kernel_rfl
attribute [simp] Tryz.underlying59
@[simp] theorem tagg59:tagg Tryz.prog 59 = some false:=by kernel_rfl
@[simp] theorem A7y:tsize Tryz.prog 59 = some 1:=by kernel_rfl
@[simp] theorem A2m:telem Tryz.prog 59 = some 76:=by kernel_rfl
@[simp] theorem nofz59:nofz Tryz.prog 59 = false:=by kernel_rfl
@[simp] theorem A7x:tsize Tryz.prog 60 = some 1:=by kernel_rfl
attribute [simp] Tryz.underlying61
@[simp] theorem tagg61:tagg Tryz.prog 61 = some false:=by kernel_rfl
@[simp] theorem A7w:tsize Tryz.prog 61 = some 1:=by kernel_rfl
attribute [simp] Tryz.underlying62
@[simp] theorem tagg62:tagg Tryz.prog 62 = some false:=by kernel_rfl
@[simp] theorem A7v:tsize Tryz.prog 62 = some 1:=by kernel_rfl
@[simp] theorem A2l:telem Tryz.prog 62 = some 42:=by kernel_rfl
@[simp] theorem nofz62:nofz Tryz.prog 62 = false:=by kernel_rfl
attribute [simp] Tryz.underlying64
@[simp] theorem tagg64:tagg Tryz.prog 64 = some true:=by kernel_rfl
@[simp] theorem A7u:tsize Tryz.prog 64 = some 4:=by kernel_rfl
@[simp] theorem A7m:tzero Tryz.prog 64 = some (.agg [.sc (.int .i64 0),.sc (.string ⟨⟨[]⟩⟩),.sc (.int .i64 0),.emp 0]):=by kernel_rfl
attribute [simp] Tryz.underlying66
@[simp] theorem A7t:tsize Tryz.prog 66 = some 3:=by kernel_rfl
@[simp] theorem A7l:tzero Tryz.prog 66 = some (.agg [.sc (.int .i64 0),.sc (.int .i64 0),.sc (.int .i64 0)]):=by kernel_rfl
attribute [simp] Tryz.underlying68
@[simp] theorem A7k:tzero Tryz.prog 68 = some (.agg [.sc (.pointer Option.none),.emp 0,.emp 0,.emp 0,.emp 0,.sc (.int .i64 0),.sc (.int .i64 0),.sc (.int .i64 0),.sc (.int .i64 0),.sc (.string ⟨⟨[]⟩⟩),.sc (.int .i64 0),.sc (.int .i64 0),.sc (.string ⟨⟨[]⟩⟩),.emp 0,.emp 0,.emp 0,.emp 0,.emp 0,.sc (.map Option.none),.sc (.bool false),.sc (.int .i64 0),.sc (.int .i64 0),.sc (.pointer Option.none),.sc (.int .i64 0),.sc (.string ⟨⟨[]⟩⟩),.sc (.int .i64 0),.emp 0,.sc (.int .i64 0),.sc (.int .i64 0),.sc (.int .i64 0)]):=by kernel_rfl
@[simp] theorem Az4 {id off:Nat}:afieldAddr Tryz.prog 68 (.ptr id off) 0 = some (.ptr id (off + 0)):=by simp [afieldAddr,tfield]
@[simp] theorem Az3 {id off:Nat}:afieldAddr Tryz.prog 68 (.ptr id off) 1 = some (.ptr id (off + 1)):=by simp [afieldAddr,tfield]
@[simp] theorem Az2 {id off:Nat}:afieldAddr Tryz.prog 68 (.ptr id off) 2 = some (.ptr id (off + 2)):=by simp [afieldAddr,tfield]
@[simp] theorem Az1 {id off:Nat}:afieldAddr Tryz.prog 68 (.ptr id off) 3 = some (.ptr id (off + 3)):=by simp [afieldAddr,tfield]
@[simp] theorem Az0 {id off:Nat}:afieldAddr Tryz.prog 68 (.ptr id off) 5 = some (.ptr id (off + 5)):=by simp [afieldAddr,tfield]
@[simp] theorem Azz {id off:Nat}:afieldAddr Tryz.prog 68 (.ptr id off) 6 = some (.ptr id (off + 6)):=by simp [afieldAddr,tfield]
@[simp] theorem Azy {id off:Nat}:afieldAddr Tryz.prog 68 (.ptr id off) 7 = some (.ptr id (off + 7)):=by simp [afieldAddr,tfield]
@[simp] theorem Azx {id off:Nat}:afieldAddr Tryz.prog 68 (.ptr id off) 8 = some (.ptr id (off + 18)):=by simp [afieldAddr,tfield]
@[simp] theorem Azw {id off:Nat}:afieldAddr Tryz.prog 68 (.ptr id off) 9 = some (.ptr id (off + 19)):=by simp [afieldAddr,tfield]
@[simp] theorem Awz {id off:Nat}:afieldAddr Tryz.prog 68 (.ptr id off) 10 = some (.ptr id (off + 20)):=by simp [afieldAddr,tfield]
@[simp] theorem Awy {id off:Nat}:afieldAddr Tryz.prog 68 (.ptr id off) 11 = some (.ptr id (off + 22)):=by simp [afieldAddr,tfield]
@[simp] theorem Awx {id off:Nat}:afieldAddr Tryz.prog 68 (.ptr id off) 12 = some (.ptr id (off + 23)):=by simp [afieldAddr,tfield]
@[simp] theorem Aww {id off:Nat}:afieldAddr Tryz.prog 68 (.ptr id off) 13 = some (.ptr id (off + 27)):=by simp [afieldAddr,tfield]
attribute [simp] Tryz.underlying76
@[simp] theorem A4y:tagg Tryz.prog 76 = some true:=by kernel_rfl
@[simp] theorem Ant:tsize Tryz.prog 76 = some 8:=by kernel_rfl
@[simp] theorem Axx:tbytes Tryz.prog 76 = some 120:=by kernel_rfl
@[simp] theorem A2e:tzero Tryz.prog 76 = some (.agg [.sc (.int .i64 0),.sc (.int .i64 0),.sc (.string ⟨⟨[]⟩⟩),.emp 0,.emp 0,.emp 0,.sc (.int .i64 0),.sc (.int .i64 0)]):=by kernel_rfl
@[simp] theorem Azv {id off:Nat}:afieldAddr Tryz.prog 76 (.ptr id off) 0 = some (.ptr id (off + 0)):=by simp [afieldAddr,tfield]
@[simp] theorem Azu {id off:Nat}:afieldAddr Tryz.prog 76 (.ptr id off) 1 = some (.ptr id (off + 6)):=by simp [afieldAddr,tfield]
@[simp] theorem tagg77:tagg Tryz.prog 77 = some false:=by kernel_rfl
@[simp] theorem A7s:tsize Tryz.prog 77 = some 1:=by kernel_rfl
attribute [simp] Tryz.underlying79
@[simp] theorem A7j:tzero Tryz.prog 79 = some (.agg [.sc (.nilIface),.sc (.map Option.none),.sc (.pointer Option.none),.sc (.int .i64 0)]):=by kernel_rfl
@[simp] theorem Azt {id off:Nat}:afieldAddr Tryz.prog 79 (.ptr id off) 0 = some (.ptr id (off + 0)):=by simp [afieldAddr,tfield]
@[simp] theorem Azs {id off:Nat}:afieldAddr Tryz.prog 79 (.ptr id off) 1 = some (.ptr id (off + 1)):=by simp [afieldAddr,tfield]
@[simp] theorem Azr {id off:Nat}:afieldAddr Tryz.prog 79 (.ptr id off) 2 = some (.ptr id (off + 2)):=by simp [afieldAddr,tfield]
@[simp] theorem Azq {id off:Nat}:afieldAddr Tryz.prog 79 (.ptr id off) 3 = some (.ptr id (off + 3)):=by simp [afieldAddr,tfield]
attribute [simp] Tryz.underlying87
@[simp] theorem A4x:tagg Tryz.prog 87 = some true:=by kernel_rfl
@[simp] theorem Ans:tsize Tryz.prog 87 = some 4:=by kernel_rfl
@[simp] theorem Axw:tbytes Tryz.prog 87 = some 64:=by kernel_rfl
@[simp] theorem A2d:tzero Tryz.prog 87 = some (.agg [.sc (.int .i64 0),.sc (.int .i64 0),.emp 0,.emp 0]):=by kernel_rfl
@[simp] theorem Azp {id off:Nat}:afieldAddr Tryz.prog 87 (.ptr id off) 0 = some (.ptr id (off + 0)):=by simp [afieldAddr,tfield]
@[simp] theorem Azo {id off:Nat}:afieldAddr Tryz.prog 87 (.ptr id off) 1 = some (.ptr id (off + 1)):=by simp [afieldAddr,tfield]
@[simp] theorem Azn {id off:Nat}:afieldAddr Tryz.prog 87 (.ptr id off) 2 = some (.ptr id (off + 2)):=by simp [afieldAddr,tfield]
@[simp] theorem Azm {id off:Nat}:afieldAddr Tryz.prog 87 (.ptr id off) 3 = some (.ptr id (off + 3)):=by simp [afieldAddr,tfield]
attribute [simp] Tryz.underlying92
@[simp] theorem tagg92:tagg Tryz.prog 92 = some false:=by kernel_rfl
@[simp] theorem A7r:tsize Tryz.prog 92 = some 1:=by kernel_rfl
@[simp] theorem A7i:tzero Tryz.prog 92 = some (.sc (.map Option.none)):=by kernel_rfl
@[simp] theorem Ahp:tmap Tryz.prog 92 = some (3,4):=by kernel_rfl
attribute [simp] Tryz.underlying94
attribute [simp] Tryz.underlying95
attribute [simp] Tryz.underlying101
@[simp] theorem A6z:tzero Tryz.prog 101 = some (.agg [.sc (.int .i64 0),.sc (.map Option.none),.sc (.map Option.none),.sc (.map Option.none),.sc (.nilFunc),.sc (.bool false)]):=by kernel_rfl
@[simp] theorem Axp {id off:Nat}:afieldAddr Tryz.prog 101 (.ptr id off) 0 = some (.ptr id (off + 0)):=by simp [afieldAddr,tfield]
@[simp] theorem Axo {id off:Nat}:afieldAddr Tryz.prog 101 (.ptr id off) 1 = some (.ptr id (off + 1)):=by simp [afieldAddr,tfield]
@[simp] theorem Axn {id off:Nat}:afieldAddr Tryz.prog 101 (.ptr id off) 2 = some (.ptr id (off + 2)):=by simp [afieldAddr,tfield]
@[simp] theorem Axm {id off:Nat}:afieldAddr Tryz.prog 101 (.ptr id off) 3 = some (.ptr id (off + 3)):=by simp [afieldAddr,tfield]
@[simp] theorem Axl {id off:Nat}:afieldAddr Tryz.prog 101 (.ptr id off) 4 = some (.ptr id (off + 4)):=by simp [afieldAddr,tfield]
@[simp] theorem Axk {id off:Nat}:afieldAddr Tryz.prog 101 (.ptr id off) 5 = some (.ptr id (off + 5)):=by simp [afieldAddr,tfield]
attribute [simp] Tryz.underlying119
@[simp] theorem A8e:tagg Tryz.prog 120 = some false:=by kernel_rfl
@[simp] theorem Ahq:tmap Tryz.prog 123 = some (3,3):=by kernel_rfl
attribute [simp] Tryz.underlying136
@[simp] theorem A66:tsize Tryz.prog 136 = some 11:=by kernel_rfl
@[simp] theorem A6y:tzero Tryz.prog 136 = some (.agg [.sc (.int .i64 0),.sc (.int .i64 0),.sc (.string ⟨⟨[]⟩⟩),.sc (.int .i64 0),.sc (.int .i64 0),.sc (.string ⟨⟨[]⟩⟩),.emp 0,.emp 0,.emp 0,.emp 0,.emp 0]):=by kernel_rfl
@[simp] theorem Axj {id off:Nat}:afieldAddr Tryz.prog 136 (.ptr id off) 0 = some (.ptr id (off + 0)):=by simp [afieldAddr,tfield]
attribute [simp] Tryz.underlying138
@[simp] theorem A65:tsize Tryz.prog 138 = some 1:=by kernel_rfl
@[simp] theorem A6x:tzero Tryz.prog 138 = some (.agg [.sc (.int .i64 0)]):=by kernel_rfl
@[simp] theorem Axi {id off:Nat}:afieldAddr Tryz.prog 138 (.ptr id off) 0 = some (.ptr id (off + 0)):=by simp [afieldAddr,tfield]
attribute [simp] Tryz.underlying140
@[simp] theorem A64:tsize Tryz.prog 140 = some 2:=by kernel_rfl
@[simp] theorem A6w:tzero Tryz.prog 140 = some (.agg [.sc (.int .i64 0),.sc (.string ⟨⟨[]⟩⟩)]):=by kernel_rfl
@[simp] theorem Axh {id off:Nat}:afieldAddr Tryz.prog 140 (.ptr id off) 0 = some (.ptr id (off + 0)):=by simp [afieldAddr,tfield]
@[simp] theorem Axg {id off:Nat}:afieldAddr Tryz.prog 140 (.ptr id off) 1 = some (.ptr id (off + 1)):=by simp [afieldAddr,tfield]
attribute [simp] Tryz.underlying142
@[simp] theorem A63:tsize Tryz.prog 142 = some 2:=by kernel_rfl
@[simp] theorem A6v:tzero Tryz.prog 142 = some (.agg [.emp 0,.emp 0]):=by kernel_rfl
@[simp] theorem Axf {id off:Nat}:afieldAddr Tryz.prog 142 (.ptr id off) 0 = some (.ptr id (off + 0)):=by simp [afieldAddr,tfield]
@[simp] theorem Axe {id off:Nat}:afieldAddr Tryz.prog 142 (.ptr id off) 1 = some (.ptr id (off + 1)):=by simp [afieldAddr,tfield]
attribute [simp] Tryz.underlying144
@[simp] theorem A62:tsize Tryz.prog 144 = some 1:=by kernel_rfl
@[simp] theorem A6u:tzero Tryz.prog 144 = some (.agg [.emp 0]):=by kernel_rfl
@[simp] theorem Axd {id off:Nat}:afieldAddr Tryz.prog 144 (.ptr id off) 0 = some (.ptr id (off + 0)):=by simp [afieldAddr,tfield]
attribute [simp] Tryz.underlying174
@[simp] theorem A8d:tagg Tryz.prog 174 = some true:=by kernel_rfl
@[simp] theorem Axt:tsize Tryz.prog 174 = some 4:=by kernel_rfl
@[simp] theorem A6t:tzero Tryz.prog 174 = some (.agg [.sc (.string ⟨⟨[]⟩⟩),.sc (.int .i64 0),.sc (.int .i64 0),.sc (.int .i64 0)]):=by kernel_rfl
@[simp] theorem Axc {id off:Nat}:afieldAddr Tryz.prog 174 (.ptr id off) 1 = some (.ptr id (off + 1)):=by simp [afieldAddr,tfield]
@[simp] theorem Axb {id off:Nat}:afieldAddr Tryz.prog 174 (.ptr id off) 2 = some (.ptr id (off + 2)):=by simp [afieldAddr,tfield]
@[simp] theorem Axa {id off:Nat}:afieldAddr Tryz.prog 174 (.ptr id off) 3 = some (.ptr id (off + 3)):=by simp [afieldAddr,tfield]
attribute [simp] Tryz.underlying177
@[simp] theorem A8c:tagg Tryz.prog 177 = some false:=by kernel_rfl
attribute [simp] Tryz.underlying182
@[simp] theorem A8b:tagg Tryz.prog 186 = some false:=by kernel_rfl
@[simp] theorem A61:tsize Tryz.prog 186 = some 1:=by kernel_rfl
@[simp] theorem A6s:tzero Tryz.prog 186 = some (.sc (.nilFunc)):=by kernel_rfl
attribute [simp] Tryz.underlying187
@[simp] theorem A67:telem Tryz.prog 187 = some 23:=by kernel_rfl
@[simp] theorem A8g:nofz Tryz.prog 187 = false:=by kernel_rfl
attribute [simp] Tryz.underlying196
attribute [simp] Tryz.underlying221
@[simp] theorem A60:tsize Tryz.prog 221 = some 44:=by kernel_rfl
@[simp] theorem Ag1:tzero Tryz.prog 221 = some (.agg [.sc (.string ⟨⟨[]⟩⟩),.sc (.int .i64 0),.sc (.int .i64 0),.sc (.int .i64 0),.sc (.string ⟨⟨[]⟩⟩),.sc (.int .i64 0),.sc (.int .i64 0),.sc (.int .i64 0),.sc (.string ⟨⟨[]⟩⟩),.sc (.int .i64 0),.sc (.int .i64 0),.sc (.int .i64 0),.sc (.string ⟨⟨[]⟩⟩),.sc (.int .i64 0),.sc (.int .i64 0),.sc (.int .i64 0),.sc (.string ⟨⟨[]⟩⟩),.sc (.int .i64 0),.sc (.int .i64 0),.sc (.int .i64 0),.sc (.string ⟨⟨[]⟩⟩),.sc (.int .i64 0),.sc (.int .i64 0),.sc (.int .i64 0),.sc (.string ⟨⟨[]⟩⟩),.sc (.int .i64 0),.sc (.int .i64 0),.sc (.int .i64 0),.sc (.string ⟨⟨[]⟩⟩),.sc (.int .i64 0),.sc (.int .i64 0),.sc (.int .i64 0),.sc (.string ⟨⟨[]⟩⟩),.sc (.int .i64 0),.sc (.int .i64 0),.sc (.int .i64 0),.sc (.string ⟨⟨[]⟩⟩),.sc (.int .i64 0),.sc (.int .i64 0),.sc (.int .i64 0),.sc (.string ⟨⟨[]⟩⟩),.sc (.int .i64 0),.sc (.int .i64 0),.sc (.int .i64 0)]):=by kernel_rfl
@[simp] theorem A2x:tarr Tryz.prog 221 = some (11,174):=by kernel_rfl
attribute [simp] Tryz.underlying228
attribute [simp] Tryz.underlying236
attribute [simp] Tryz.underlying238
attribute [simp] Tryz.underlying252
@[simp] theorem A2y:tagg Tryz.prog 252 = some true:=by kernel_rfl
@[simp] theorem Apq:tsize Tryz.prog 252 = some 3:=by kernel_rfl
@[simp] theorem A6r:tzero Tryz.prog 252 = some (.agg [.sc (.string ⟨⟨[]⟩⟩),.sc (.int .i64 0),.sc (.int .i64 0)]):=by kernel_rfl
@[simp] theorem Aw9 {id off:Nat}:afieldAddr Tryz.prog 252 (.ptr id off) 0 = some (.ptr id (off + 0)):=by simp [afieldAddr,tfield]
@[simp] theorem Aw8 {id off:Nat}:afieldAddr Tryz.prog 252 (.ptr id off) 1 = some (.ptr id (off + 1)):=by simp [afieldAddr,tfield]
@[simp] theorem Aw7 {id off:Nat}:afieldAddr Tryz.prog 252 (.ptr id off) 2 = some (.ptr id (off + 2)):=by simp [afieldAddr,tfield]
@[simp] theorem A8a:tagg Tryz.prog 255 = some false:=by kernel_rfl
attribute [simp] Tryz.underlying257
@[simp] theorem A6q:tzero Tryz.prog 257 = some (.agg [.sc (.pointer Option.none),.sc (.int .i64 0),.emp 0,.sc (.int .i64 0)]):=by kernel_rfl
@[simp] theorem Aw6 {id off:Nat}:afieldAddr Tryz.prog 257 (.ptr id off) 0 = some (.ptr id (off + 0)):=by simp [afieldAddr,tfield]
@[simp] theorem Aw5 {id off:Nat}:afieldAddr Tryz.prog 257 (.ptr id off) 1 = some (.ptr id (off + 1)):=by simp [afieldAddr,tfield]
@[simp] theorem Aw4 {id off:Nat}:afieldAddr Tryz.prog 257 (.ptr id off) 2 = some (.ptr id (off + 2)):=by simp [afieldAddr,tfield]
@[simp] theorem Aw3 {id off:Nat}:afieldAddr Tryz.prog 257 (.ptr id off) 3 = some (.ptr id (off + 3)):=by simp [afieldAddr,tfield]
attribute [simp] Tryz.underlying261
@[simp] theorem A2w:tarr Tryz.prog 270 = some (85,252):=by kernel_rfl
attribute [simp] Tryz.underlying274
@[simp] theorem A6p:tzero Tryz.prog 274 = some (.agg [.sc (.pointer Option.none),.sc (.int .i64 0)]):=by kernel_rfl
@[simp] theorem Aw1 {id off:Nat}:afieldAddr Tryz.prog 274 (.ptr id off) 0 = some (.ptr id (off + 0)):=by simp [afieldAddr,tfield]
@[simp] theorem Aw0 {id off:Nat}:afieldAddr Tryz.prog 274 (.ptr id off) 1 = some (.ptr id (off + 1)):=by simp [afieldAddr,tfield]
attribute [simp] Tryz.underlying283
theorem el22:ElemOf Tryz.prog 22 1 false:=⟨⟨3,8,.sc (.int .i64 0),A2s,Abv,A2v,A1s,tagg3,by kernel_rfl,by decide,by kernel_rfl⟩,by decide⟩
theorem el23:ElemOf Tryz.prog 23 6 true:=⟨⟨25,104,.agg zeroCells,A2r,Ab8,Ax0,A2g,A40,by kernel_rfl,by decide,by kernel_rfl⟩,by decide⟩
theorem el26:ElemOf Tryz.prog 26 11 true:=⟨⟨28,184,.agg [.sc (.int .i64 0),.sc (.int .i64 0),.sc (.string ⟨⟨[]⟩⟩),.sc (.int .i64 0),.sc (.int .i64 0),.sc (.string ⟨⟨[]⟩⟩),.emp 0,.emp 0,.emp 0,.emp 0,.emp 0],A2q,Ab7,Axz,A2f,A4z,by kernel_rfl,by decide,by kernel_rfl⟩,by decide⟩
theorem el29:ElemOf Tryz.prog 29 1 false:=⟨⟨5,1,.sc (.int .u8 0),A2p,App,A2u,A4u,tagg5,by kernel_rfl,by decide,by kernel_rfl⟩,by decide⟩
theorem el50:ElemOf Tryz.prog 50 4 true:=⟨⟨87,64,.agg [.sc (.int .i64 0),.sc (.int .i64 0),.emp 0,.emp 0],A2o,Ans,Axw,A2d,A4x,by kernel_rfl,by decide,by kernel_rfl⟩,by decide⟩
theorem el51:ElemOf Tryz.prog 51 1 false:=⟨⟨9,16,.sc (.string ⟨⟨[]⟩⟩),A2n,A4w,A2t,A4t,tagg9,by kernel_rfl,by decide,by kernel_rfl⟩,by decide⟩
theorem el59:ElemOf Tryz.prog 59 8 true:=⟨⟨76,120,.agg [.sc (.int .i64 0),.sc (.int .i64 0),.sc (.string ⟨⟨[]⟩⟩),.emp 0,.emp 0,.emp 0,.sc (.int .i64 0),.sc (.int .i64 0)],A2m,Ant,Axx,A2e,A4y,by kernel_rfl,by decide,by kernel_rfl⟩,by decide⟩
theorem el62:ElemOf Tryz.prog 62 2 true:=⟨⟨42,16,.agg [.sc (.int .i64 0),.sc (.int .i64 0)],A2l,Abl,Axy,As8,Atg,by kernel_rfl,by decide,by kernel_rfl⟩,by decide⟩
end Go.Proofs.YthegkphhfleghaaGreat
namespace Go.Proofs.YthegkphhfleghaaGreat
set_option maxRecDepth 4000
set_option maxRecDepth 4000
open Go.V
def leaves:List Nat:=[123,75,164,165,94,118]
noncomputable def cf:Cfg:=⟨fun _ => false,fun _ => false,fun f => if f == 57 then some (cloneP Tryz.prog f) else none,fun f => if leaves.contains f then 0 else 1⟩
abbrev int (n:Int):AV:=.sc (.int .i64 n)
inductive Dat where
 | mk (K N:Int) (S:List UInt8) (M:List Int) (L T:List Dat)
mutual
def enc:Dat → AV
 | .mk K N S M L T => .agg [int K,int N,.sc (.string ⟨⟨S⟩⟩),.lst (M.map int),.lst (encs L),.lst (encs T)]
def encs:List Dat → List AV
 | [] => []
 | d :: l => enc d :: encs l
end
theorem Adm:∀ l,encs l = l.map enc
 | [] => by simp [encs]
 | d :: l => by simp [encs,Adm l]
@[simp] theorem A4d (l:List Dat):(encs l).length = l.length:=by simp [Adm]
theorem Adn (l:List Dat) (i:Nat):(encs l)[i]? = (l[i]?).map enc:=by simp [Adm]
@[simp] theorem A3x (m:Mem) (d:Dat):fzv m (enc d) = (enc d,m):=by
 cases d
 simp [enc]
@[simp] theorem A8i (d:Dat):(enc d).okc = true:=by cases d; simp [enc]
@[simp] theorem Aax (d:Dat):(enc d).cells.length = 6:=by cases d; simp [enc]
@[simp] theorem A7d (d:Dat):List.take 6 (enc d).cells = (enc d).cells:=List.take_of_length_le (by simp)
@[simp] theorem A8j (d:Dat):AV.agg (enc d).cells = enc d:=by cases d; simp [enc]
@[simp] theorem Arl (l:List Int):okAll 1 (l.map int) = true:=by
 induction l with
 | nil => rfl
 | cons x l ih => simp [Aan,ih]
@[simp] theorem Ajv (l:List Dat):okAll 6 (encs l) = true:=by
 induction l with
 | nil => rfl
 | cons x l ih => simp [encs,Aan,ih]
@[simp] theorem A51 (m:Mem) (l:List Int):fzvs m (l.map int) = (l.map int,m):=by
 induction l with
 | nil => rfl
 | cons x l ih => simp [fzvs,ih]
theorem Am0 (l:List Int):flat (l.map int) = l.map int:=by
 induction l with
 | nil => rfl
 | cons x l ih => simp [Aa3,ih]
@[simp] theorem A6k (n:Nat) (l:List Int):AV.bels n (l.map int) = true:=by
 induction l with
 | nil => rfl
 | cons x l ih => simp [AV.bels,AV.bel,ih]
mutual
@[simp] theorem bel_enc (n:Nat):∀ d:Dat,(enc d).bel n = true
 | .mk K N S M L T => by simp [enc,AV.bel,AV.bels,bels_encs n L,bels_encs n T]
@[simp] theorem bels_encs (n:Nat):∀ l:List Dat,AV.bels n (encs l) = true
 | [] => by simp [encs,AV.bels]
 | d :: l => by simp [encs,AV.bels,bel_enc n d,bels_encs n l]
end
structure Fits (K N:Int) (S:List UInt8) (M:List Int) (L T:List Dat):Prop where
 n:-9223372036854775808 ≤ N ∧ N ≤ 9223372036854775807
 s:S.length < 2 ^ 21
 m:M.length < 2 ^ 21
 l:L.length < 2 ^ 21
 t:T.length < 2 ^ 21
mutual
def Dat.size:Dat → Nat
 | .mk _ _ _ _ L T => 1 + (sizes L + sizes T)
def sizes:List Dat → Nat
 | [] => 0
 | d :: l => d.size + sizes l
end
theorem Abj:∀ {l:List Dat} {d:Dat},d ∈ l → d.size ≤ sizes l
 | x :: l,d,h => by
  rw [sizes]
  rcases List.mem_cons.1 h with rfl | h
  ·omega
  ·have:=Abj h; omega
mutual
def Dat.fits:Dat → Prop
 | .mk K N S M L T => Fits K N S M L T ∧ fitss L ∧ fitss T
def fitss:List Dat → Prop
 | [] => True
 | d :: l => d.fits ∧ fitss l
end
theorem Acb:∀ {l:List Dat},fitss l → ∀ {d:Dat},d ∈ l → d.fits
 | x :: l,h,d,hd => by
  rw [fitss] at h
  rcases List.mem_cons.1 hd with rfl | hd
  ·exact h.1
  ·exact Acb h.2 hd
theorem Abg {K N:Int} {S:List UInt8} {M:List Int} {L T:List Dat} (h:(Dat.mk K N S M L T).fits):Fits K N S M L T:=by rw [Dat.fits] at h; exact h.1
def has (m:Mem) (id:Nat) (cs:List AV):Prop:=id < m.next ∧ ∃ v,m.get id = some (.cells cs false v)
structure KpX (X:Nat → Prop) (m m':Mem):Prop where
 next:m.next ≤ m'.next
 get:∀ id,id < m.next → ¬ X id → m'.get id = m.get id
 x:XK m m'
theorem KpX.refl (X:Nat → Prop) (m:Mem):KpX X m m:=⟨Nat.le_refl _,fun _ _ _ => rfl,.refl m⟩
theorem KpX.trans {X:Nat → Prop} {a b c:Mem} (h:KpX X a b) (k:KpX X b c):KpX X a c:=⟨Nat.le_trans h.next k.next,fun id hi hx => (k.get id (Nat.lt_of_lt_of_le hi h.next) hx).trans (h.get id hi hx),h.x.trans h.next k.x⟩
theorem KpX.of {X:Nat → Prop} {a b:Mem} (h:Kp a b):KpX X a b:=⟨h.next,fun id hi _ => h.get id hi,h.x⟩
theorem KpX.set {X:Nat → Prop} {a b:Mem} (h:KpX X a b) {id:Nat} (hx:X id) (cs:List AV):KpX X a (b.set id cs):=⟨h.next,fun j hj hn => by rw [Mem.get_set,if_neg (by rintro rfl; exact hn hx)]; exact h.get j hj hn,h.x.same rfl rfl⟩
theorem KpX.setn {X:Nat → Prop} {a b:Mem} (h:KpX X a b) {id:Nat} (hx:a.next ≤ id) (cs:List AV):KpX X a (b.set id cs):=⟨h.next,fun j hj hn => by rw [Mem.get_set,if_neg (by omega)]; exact h.get j hj hn,h.x.same rfl rfl⟩
theorem KpX.new {X:Nat → Prop} {a b:Mem} (h:KpX X a b) (cs:List AV) (f:Bool):KpX X a (b.new cs f):=h.trans (.of (.new _ _ _))
theorem has.kept {X:Nat → Prop} {m m':Mem} {id:Nat} {cs:List AV} (h:has m id cs) (k:KpX X m m') (hx:¬ X id):has m' id cs:=⟨Nat.lt_of_lt_of_le h.1 k.next,by rw [k.get id h.1 hx]; exact h.2⟩
theorem has.kp {m m':Mem} {id:Nat} {cs:List AV} (h:has m id cs) (k:Kp m m'):has m' id cs:=⟨Nat.lt_of_lt_of_le h.1 k.next,by rw [k.get id h.1]; exact h.2⟩
theorem KpX.kp {X:Nat → Prop} {a b c:Mem} (h:KpX X b c) (k:Kp a b) (hx:∀ id,id < a.next → ¬ X id):Kp a c:=⟨Nat.le_trans k.next h.next,fun id hi => (h.get id (Nat.lt_of_lt_of_le hi k.next) (hx id hi)).trans (k.get id hi),k.x.trans k.next h.x⟩
end Go.Proofs.YthegkphhfleghaaGreat
namespace Go.Proofs.YthegkphhfleghaaGreat
set_option maxRecDepth 4000
set_option maxRecDepth 4000
open Go.V
attribute [local simp] Tryz.underlying9 Tryz.underlying5
theorem g66 (a:Int):Gives Tryz.prog cf 138 [.sc (.int .i64 a)] (.sc (.bool (decide (-1152921504606846976 ≤ a) && decide (a ≤ 1152921504606846975)))):=by
 refine Aba Tryz.func138 rfl rfl rfl (by simp [Tryz.f138]) (by simp [Tryz.f138]) fun m Q hQ => ?_
 simp only [Tryz.f138,show cf.keepRes 138 = false from rfl] at hQ ⊢
 simp
 by_cases h:-1152921504606846976 ≤ a
 all_goals
  simp [h]
  refine hQ _ _ _ (Aab (.inr rfl) Aaa ⟨by simp [h],.refl m⟩)
def lets:List UInt8:=[33,36,37,38,42,47,58,60,61,62,63,94,95,126]
def digs:List UInt8:=[48,49,50,51,52,53,54,55,56,57,43,45,46,64]
def letter (c:UInt8):Bool:=(decide (97 ≤ (c.toNat:Int)) && decide ((c.toNat:Int) ≤ 122)) || (decide (65 ≤ (c.toNat:Int)) && decide ((c.toNat:Int) ≤ 90)) || decide (c ∈ lets)
def later (c:UInt8):Bool:=letter c || decide (c ∈ digs)
def Sym (l:List UInt8):Bool:=decide (l = [43]) || decide (l = [45]) || decide (l = [46,46,46]) || (decide (l.length ≤ 32) && match l with | [] => false | c :: r => letter c && r.all later)
theorem Azk (l:List UInt8) (c:UInt8):∃ r:Int,(match (List.range (⟨⟨l⟩⟩:ByteArray).size).find? (fun i => (⟨⟨l⟩⟩:ByteArray)[i]! == c) with | some i => goInt i | none => goInt (-1)) = .int .i64 r ∧ (r < 0 ↔ c ∉ l):=by
 have hg:∀ i,i < l.length → (⟨⟨l⟩⟩:ByteArray)[i]! = l[i]!:=fun i hi => by
  rw [getElem!_pos (⟨⟨l⟩⟩:ByteArray) i (by simpa [ByteArray.size] using hi),getElem!_pos l i hi]
  rfl
 have hs:(⟨⟨l⟩⟩:ByteArray).size = l.length:=by simp [ByteArray.size]
 rw [hs]
 cases hf:(List.range l.length).find? (fun i => (⟨⟨l⟩⟩:ByteArray)[i]! == c) with
 | some i =>
  refine ⟨i,rfl,?_⟩
  have h1:=List.find?_some hf
  have h2:=List.mem_range.1 (List.mem_of_find?_eq_some hf)
  rw [hg i h2,getElem!_pos l i h2] at h1
  have:c ∈ l:=by rw [← (by simpa using h1:l[i] = c)]; exact List.getElem_mem h2
  simp [this]
 | none =>
  refine ⟨-1,rfl,?_⟩
  rw [List.find?_eq_none] at hf
  have:c ∉ l:=by
   intro hm
   obtain ⟨j,hj,e⟩:=List.getElem_of_mem hm
   have:=hf j (List.mem_range.2 hj)
   rw [hg j hj,getElem!_pos l j hj] at this
   simp [e] at this
  simp [this]
theorem ext65:Extern.findNext Tryz.f199 = none ∧ Extern.find Tryz.f199 = some Extern.BytealgIndexByte.indexByte:=by
 constructor <;> kernel_rfl
theorem g65 (l:List UInt8) (c:UInt8):∃ r:Int,(r < 0 ↔ c ∉ l) ∧ Gives Tryz.prog cf 199 [.sc (.string ⟨⟨l⟩⟩),.sc (.int .u8 c.toNat)] (.sc (.int .i64 r)):=by
 obtain ⟨r,h1,h2⟩:=Azk l c
 refine ⟨r,h2,Amq Tryz.func199 rfl rfl (vs:=[.string ⟨⟨l⟩⟩,.int .u8 c.toNat]) rfl (r:=.int .i64 r) ?_⟩
 rw [Aiv Tryz.func199 rfl rfl ext65.1 ext65.2]
 have h3:pureRun Tryz.prog (Extern.BytealgIndexByte.indexByte [.string ⟨⟨l⟩⟩,.int .u8 c.toNat].toArray) = some (.int .i64 r):=by
  show pureRun Tryz.prog (do let b ← Extern.Bytes.bytesOf (.string ⟨⟨l⟩⟩); let c ← Extern.Bytes.asByte (.int .u8 c.toNat); match (List.range b.size).find? (fun i => b[i]! == c) with | some i => pure (goInt i) | none => pure (goInt (-1))) = _
  have h4:((c.toNat:Int).toNat).toUInt8 = c:=by simp
  rw [Aag]
  show pureRun Tryz.prog (do let c ← Extern.Bytes.asByte (.int .u8 c.toNat); match (List.range (⟨⟨l⟩⟩:ByteArray).size).find? (fun i => (⟨⟨l⟩⟩:ByteArray)[i]! == c) with | some i => pure (goInt i) | none => pure (goInt (-1))) = _
  rw [Aag]
  show pureRun Tryz.prog (match (List.range (⟨⟨l⟩⟩:ByteArray).size).find? (fun i => (⟨⟨l⟩⟩:ByteArray)[i]! == ((c.toNat:Int).toNat).toUInt8) with | some i => pure (goInt i) | none => pure (goInt (-1))) = _
  rw [h4,← h1]
  split <;> rfl
 rw [h3]
 rfl
theorem g57 (l:List UInt8) (c:UInt8):∃ r:Int,(r < 0 ↔ c ∉ l) ∧ Gives Tryz.prog cf 166 [.sc (.string ⟨⟨l⟩⟩),.sc (.int .u8 c.toNat)] (.sc (.int .i64 r)):=by
 obtain ⟨r,h,hg⟩:=g65 l c
 refine ⟨r,h,?_⟩
 refine Aba Tryz.func166 rfl rfl rfl (by simp [Tryz.f166]) (by simp [Tryz.f166]) fun m Q hQ => ?_
 simp only [Tryz.f166,show cf.keepRes 166 = false from rfl] at hQ ⊢
 simp
 refine Aar hg fun m1 k1 => ?_
 simp
 exact hQ _ _ _ (Aab (.inr rfl) Aaa ⟨rfl,k1⟩)
theorem g40 (l:List UInt8) (c:UInt8):∃ r:Int,(r < 0 ↔ c ∉ l) ∧ Gives Tryz.prog cf 124 [.sc (.string ⟨⟨l⟩⟩),.sc (.int .u8 c.toNat)] (.sc (.int .i64 r)):=by
 obtain ⟨r,h,hg⟩:=g57 l c
 refine ⟨r,h,?_⟩
 refine Aba Tryz.func124 rfl rfl rfl (by simp [Tryz.f124]) (by simp [Tryz.f124]) fun m Q hQ => ?_
 simp only [Tryz.f124,show cf.keepRes 124 = false from rfl] at hQ ⊢
 simp
 refine Aar hg fun m1 k1 => ?_
 simp
 exact hQ _ _ _ (Aab (.inr rfl) Aaa ⟨rfl,k1⟩)
def begins:List UInt8:=[97,98,99,100,101,102,103,104,105,106,107,108,109,110,111,112,113,114,115,116,117,118,119,120,121,122,65,66,67,68,69,70,71,72,73,74,75,76,77,78,79,80,81,82,83,84,85,86,87,88,89,90,33,36,37,38,42,47,58,60,61,62,63,94,95,126]
def goes:List UInt8:=[97,98,99,100,101,102,103,104,105,106,107,108,109,110,111,112,113,114,115,116,117,118,119,120,121,122,65,66,67,68,69,70,71,72,73,74,75,76,77,78,79,80,81,82,83,84,85,86,87,88,89,90,33,36,37,38,42,47,58,60,61,62,63,94,95,126,48,49,50,51,52,53,54,55,56,57,43,45,46,64]
theorem Afi (c:UInt8):letter c = decide (c ∈ begins):=by
 have h:∀ n:Fin 256,letter (UInt8.ofNat n.val) = decide (UInt8.ofNat n.val ∈ begins):=by decide +kernel
 have:=h ⟨c.toNat,c.toNat_lt⟩
 simpa using this
theorem Aj1 (c:UInt8):later c = decide (c ∈ goes):=by
 have h:∀ n:Fin 256,later (UInt8.ofNat n.val) = decide (UInt8.ofNat n.val ∈ goes):=by decide +kernel
 have:=h ⟨c.toNat,c.toNat_lt⟩
 simpa using this
theorem Aib {c:UInt8} (h:letter c = true):later c = true:=by simp [later,h]
theorem g12 (l:List UInt8) (hl:l.length < 2 ^ 62):Gives Tryz.prog cf 86 [.sc (.string ⟨⟨l⟩⟩)] (.sc (.bool (Sym l))):=by
 refine Aba Tryz.func86 rfl rfl rfl (by simp [Tryz.f86]) (by simp [Tryz.f86]) fun m Q hQ => ?_
 simp only [Tryz.f86,show cf.keepRes 86 = false from rfl] at hQ ⊢
 simp
 by_cases e1:l = [43]
 ·simp [e1]
  exact hQ _ _ _ (Aab (.inr rfl) Aaa ⟨by simp [Sym,e1],.refl m⟩)
 by_cases e2:l = [45]
 ·simp [e1,e2]
  exact hQ _ _ _ (Aab (.inr rfl) Aaa ⟨by simp [Sym,e2],.refl m⟩)
 by_cases e3:l = [46,46,46]
 ·simp [e1,e2,e3]
  exact hQ _ _ _ (Aab (.inr rfl) Aaa ⟨by simp [Sym,e3],.refl m⟩)
 simp [e1,e2,e3]
 cases l with
 | nil =>
  simp
  exact hQ _ _ _ (Aab (.inr rfl) Aaa ⟨by simp [Sym],.refl m⟩)
 | cons c r =>
  simp
  by_cases e4:(32:Int) < r.length + 1
  ·simp [e4]
   exact hQ _ _ _ (Aab (.inr rfl) Aaa ⟨by simp [Sym,e1,e2,e3]; omega,.refl m⟩)
  ·simp [e4]
   obtain ⟨q,hq,hg⟩:=g40 begins c
   refine Aar hg fun m1 k1 => ?_
   by_cases e5:q < 0
   ·simp [e5]
    have:letter c = false:=by rw [Afi]; simpa using hq.1 e5
    exact hQ _ _ _ (Aab (.inr rfl) Aaa ⟨by simp [Sym,e1,e2,e3,this],k1⟩)
   ·have hc:letter c = true:=by
     rw [Afi]
     simp only [decide_eq_true_eq]
     exact Classical.byContradiction fun h => e5 (hq.2 h)
    simp [e5]
    refine Ac2 (fun n s m' => Kp m m' ∧ ∃ i:Nat,n = (c :: r).length - i ∧ s.at 0 = .sc (.string ⟨⟨c :: r⟩⟩) ∧ s.at 21 = .sc (.int .i64 ((c :: r).length:Nat)) ∧ s.at 22 = .sc (.int .i64 i) ∧ i ≤ (c :: r).length ∧ ∀ j b,j < i → (c :: r)[j]? = some b → later b = true) ((c :: r).length) ⟨k1,0,by simp⟩ ?_
    rintro n s m2 ⟨k2,i,rfl,h0,h21,h22,hi,hno⟩ Q' hn he
    simp [h0,h21,h22]
    refine Aas (fun h => ?_) fun h => ?_
    ·have hlt:i < (c :: r).length:=by simp at h ⊢; omega
     obtain ⟨b,hb⟩:∃ b,(c :: r)[i]? = some b:=⟨_,List.getElem?_eq_getElem hlt⟩
     obtain ⟨q2,hq2,hg2⟩:=g40 goes b
     simp [h0,h22,Agk Tryz.underlying9 hb]
     refine Aar hg2 fun m3 k3 => ?_
     by_cases e6:q2 < 0
     ·simp [e6]
      refine he _ _ _ (by simp) ?_
      simp
      refine hQ _ _ _ (Aab (.inr rfl) Aaa ⟨?_,k2.trans k3⟩)
      have hb2:later b = false:=by rw [Aj1]; simpa using hq2.1 e6
      have:(c :: r).all later = false:=by
       rw [List.all_eq_false]
       exact ⟨b,List.mem_of_getElem? hb,by simp [hb2]⟩
      simp only [List.all_cons,Aib hc,Bool.true_and] at this
      simp [Sym,e1,e2,e3,this]
     ·have hb2:later b = true:=by
       rw [Aj1]
       simp only [decide_eq_true_eq]
       exact Classical.byContradiction fun h => e6 (hq2.2 h)
      simp [e6,h22]
      refine hn ((c :: r).length - (i + 1)) _ _ (by omega) ⟨k2.trans k3,i + 1,rfl,by simp [h0],by simp [h21],?_,hlt,fun j b' hj hb' => ?_⟩
      ·rw [Aaa,IntWalk.i64_in _ (by omega)]; rfl
      ·rcases Nat.lt_or_ge j i with h2 | h2
       ·exact hno j b' h2 hb'
       ·have:j = i:=by omega
        subst this
        rw [hb] at hb'
        cases hb'
        exact hb2
    ·simp
     refine he _ _ _ (by simp) ?_
     simp
     refine hQ _ _ _ (Aab (.inr rfl) Aaa ⟨?_,k2⟩)
     have hle:i = (c :: r).length:=by simp at h hi ⊢; omega
     have:r.all later = true:=by
      rw [List.all_eq_true]
      intro b hb
      obtain ⟨j,hj,e⟩:=List.getElem_of_mem hb
      exact hno (j + 1) b (by simp at hle ⊢; omega) (by rw [List.getElem?_cons_succ,List.getElem?_eq_getElem hj,e])
     simp [Sym,this,hc]
     omega
end Go.Proofs.YthegkphhfleghaaGreat
namespace Go.Proofs.YthegkphhfleghaaGreat
set_option maxRecDepth 4000
set_option maxRecDepth 4000
open Go.V
theorem Ahr {α β γ:Type} (M:List α) (L:List β) (T:List γ):decide ((M.length:Int) + L.length + T.length = 0) = (M.isEmpty && L.isEmpty && T.isEmpty):=by
 cases M <;> cases L <;> cases T <;> simp <;> omega
theorem g67 {K N:Int} {S:List UInt8} {M L T:List AV} (hM:M.length < 2 ^ 21) (hL:L.length < 2 ^ 21) (hT:T.length < 2 ^ 21) :
  Gives Tryz.prog cf 139 [.agg [int K,int N,.sc (.string ⟨⟨S⟩⟩),.lst M,.lst L,.lst T]] (.sc (.bool (decide (N = 0) && decide (S = []) && (M.isEmpty && L.isEmpty && T.isEmpty)))):=by
 refine Aba Tryz.func139 rfl rfl rfl (by simp [Tryz.f139]) (by simp [Tryz.f139]) fun m Q hQ => ?_
 simp only [Tryz.f139,show cf.keepRes 139 = false from rfl] at hQ ⊢
 have w1:IntKind.i64.wrap ((M.length:Int) + L.length) = M.length + L.length:=IntWalk.i64_in _ (by omega)
 have w2:IntKind.i64.wrap ((M.length:Int) + L.length + T.length) = M.length + L.length + T.length:=IntWalk.i64_in _ (by omega)
 by_cases h1:N = 0 <;> by_cases h2:S = []
 all_goals
  simp [h1,h2,w1,w2]
  exact hQ _ _ _ (Aab (.inr rfl) Aaa ⟨by simp [h1,h2,Ahr],.new _ _ _⟩)
def asc (c:UInt8):Bool:=decide ((c.toNat:Int) < 128)
theorem Awh {b:UInt8} (h:(128:Int) ≤ b.toNat):asc b = false:=decide_eq_false (Int.not_lt.2 h)
theorem A1d {b:UInt8} (h:¬ (128:Int) ≤ b.toNat):asc b = true:=decide_eq_true (Int.not_le.1 h)
theorem g68 (l:List UInt8) (hl:l.length < 2 ^ 21):Gives Tryz.prog cf 140 [.sc (.string ⟨⟨l⟩⟩)] (.sc (.bool (decide (l.length ≤ 256) && l.all asc))):=by
 refine Aba Tryz.func140 rfl rfl rfl (by simp [Tryz.f140]) (by simp [Tryz.f140]) fun m Q hQ => ?_
 simp only [Tryz.f140,show cf.keepRes 140 = false from rfl] at hQ ⊢
 by_cases e4:(256:Int) < l.length
 ·simp [e4]
  exact hQ _ _ _ (Aab (.inr rfl) Aaa ⟨by simp; omega,.refl m⟩)
 ·simp [e4]
  refine Ac2 (fun n s m' => m' = m ∧ ∃ i:Nat,n = l.length - i ∧ s.at 0 = .sc (.string ⟨⟨l⟩⟩) ∧ s.at 8 = int l.length ∧ s.at 9 = int i ∧ i ≤ l.length ∧ ∀ j b,j < i → l[j]? = some b → asc b = true) l.length ⟨rfl,0,by simp⟩ ?_
  rintro n s _ ⟨rfl,i,rfl,h0,h8,h9,hi,hno⟩ Q' hn he
  simp [h0,h8,h9]
  refine Aas (fun h => ?_) fun h => ?_
  ·have hlt:i < l.length:=by simp at h; omega
   obtain ⟨b,hb⟩:∃ b,l[i]? = some b:=⟨_,List.getElem?_eq_getElem hlt⟩
   simp [h0,h9,Agk Tryz.underlying9 hb]
   by_cases e6:(128:Int) ≤ b.toNat
   ·simp [e6]
    refine he _ _ _ (by simp) ?_
    simp
    refine hQ _ _ _ (Aab (.inr rfl) Aaa ⟨?_,.refl _⟩)
    have:l.all asc = false:=by
     rw [List.all_eq_false]
     exact ⟨b,List.mem_of_getElem? hb,by rw [Awh e6]; simp⟩
    simp [this]
   ·simp [e6,h9]
    refine hn (l.length - (i + 1)) _ _ (by omega) ⟨rfl,i + 1,rfl,by simp [h0],by simp [h8],?_,hlt,fun j b' hj hb' => ?_⟩
    ·rw [Aaa,IntWalk.i64_in _ (by omega)]; rfl
    ·rcases Nat.lt_or_ge j i with h2 | h2
     ·exact hno j b' h2 hb'
     ·have:j = i:=by omega
      subst this
      rw [hb] at hb'
      cases hb'
      exact A1d e6
  ·simp
   refine he _ _ _ (by simp) ?_
   simp
   refine hQ _ _ _ (Aab (.inr rfl) Aaa ⟨?_,.refl _⟩)
   have hle:i = l.length:=by simp at h hi ⊢; omega
   have:l.all asc = true:=by
    rw [List.all_eq_true]
    intro b hb
    obtain ⟨j,hj,e⟩:=List.getElem_of_mem hb
    exact hno j b (by omega) (by rw [List.getElem?_eq_getElem hj,e])
   simp [this]
   omega
def wrong (n:Int):Bool:=decide (n < 1) || decide (1048576 < n)
theorem g69 (n:Int):Gives Tryz.prog cf 141 [int n] (.sc (.bool (wrong n))):=by
 refine Aba Tryz.func141 rfl rfl rfl (by simp [Tryz.f141]) (by simp [Tryz.f141]) fun m Q hQ => ?_
 simp only [Tryz.f141,show cf.keepRes 141 = false from rfl] at hQ ⊢
 by_cases h1:n < 1
 all_goals
  simp [h1]
  exact hQ _ _ _ (Aab (.inr rfl) Aaa ⟨by simp [wrong,h1],.refl _⟩)
theorem g72 (l:List Int) (hl:l.length < 2 ^ 21):∃ r:Int,(0 ≤ r ↔ l.any wrong = true) ∧ Gives Tryz.prog cf 173 [.lst (l.map int),.fn (.func 141) [] []] (int r):=by
 refine ⟨match l.findIdx? wrong with | some i => i | none => -1,?_,?_⟩
 ·cases hf:l.findIdx? wrong with
  | none =>
   rw [List.findIdx?_eq_none_iff] at hf
   simp
   exact hf
  | some i =>
   rw [List.findIdx?_eq_some_iff_getElem] at hf
   obtain ⟨h1,h2,_⟩:=hf
   simp only [List.any_eq_true]
   exact ⟨fun _ => ⟨_,List.getElem_mem h1,h2⟩,fun _ => by omega⟩
 refine Aba Tryz.func173 rfl rfl rfl (by simp [Tryz.f173]) (by simp [Tryz.f173]) fun m Q hQ => ?_
 simp only [Tryz.f173,show cf.keepRes 173 = false from rfl] at hQ ⊢
 simp
 refine Ac2 (fun n s m' => Kp m m' ∧ ∃ i:Nat,n = l.length - i ∧ s.at 0 = .lst (l.map int) ∧ s.at 1 = .fn (.func 141) [] [] ∧ s.at 7 = int l.length ∧ s.at 8 = int i ∧ i ≤ l.length ∧ ∀ j b,j < i → l[j]? = some b → wrong b = false) l.length ⟨.refl m,0,by simp⟩ ?_
 rintro n s m1 ⟨k1,i,rfl,h0,h1,h7,h8,hi,hno⟩ Q' hn he
 simp [h7,h8]
 refine Aas (fun h => ?_) fun h => ?_
 ·have hlt:i < l.length:=by simp at h; omega
  obtain ⟨b,hb⟩:∃ b,l[i]? = some b:=⟨_,List.getElem?_eq_getElem hlt⟩
  have hx:(l.map int)[i]? = some (int b):=by simp [hb]
  simp [h0,h1,h8,Aad Tryz.underlying22 Abv hx]
  refine Aar (g69 b) fun m2 k2 => ?_
  cases e6:wrong b with
  | true =>
   simp
   refine he _ _ _ (by simp) ?_
   simp
   refine hQ _ _ _ (Aab (.inr rfl) Aaa ⟨?_,k1.trans k2⟩)
   have:l.findIdx? wrong = some i:=by
    rw [List.findIdx?_eq_some_iff_getElem]
    obtain ⟨h2,rfl⟩:=List.getElem?_eq_some_iff.1 hb
    refine ⟨h2,e6,fun j hj => ?_⟩
    simp [hno j _ hj (List.getElem?_eq_getElem (by omega))]
   simp [this]
  | false =>
   simp [h8]
   refine hn (l.length - (i + 1)) _ _ (by omega) ⟨k1.trans k2,i + 1,rfl,by simp [h0],by simp [h1],by simp [h7],?_,hlt,fun j b' hj hb' => ?_⟩
   ·rw [Aaa,IntWalk.i64_in _ (by omega)]; rfl
   ·rcases Nat.lt_or_ge j i with h2 | h2
    ·exact hno j b' h2 hb'
    ·have:j = i:=by omega
     subst this
     rw [hb] at hb'
     cases hb'
     exact e6
 ·simp
  refine he _ _ _ (by simp) ?_
  simp
  refine hQ _ _ _ (Aab (.inr rfl) Aaa ⟨?_,k1⟩)
  have hle:i = l.length:=by simp at h hi ⊢; omega
  have:l.findIdx? wrong = none:=by
   rw [List.findIdx?_eq_none_iff]
   intro b hb
   obtain ⟨j,hj,e⟩:=List.getElem_of_mem hb
   exact hno j b (by omega) (by rw [List.getElem?_eq_getElem hj,e])
  simp [this]
theorem g70 (l:List Int) (hl:l.length < 2 ^ 21):Gives Tryz.prog cf 142 [.lst (l.map int),.fn (.func 141) [] []] (.sc (.bool (l.any wrong))):=by
 obtain ⟨r,h,hg⟩:=g72 l hl
 refine Aba Tryz.func142 rfl rfl rfl (by simp [Tryz.f142]) (by simp [Tryz.f142]) fun m Q hQ => ?_
 simp only [Tryz.f142,show cf.keepRes 142 = false from rfl] at hQ ⊢
 simp
 refine Aar hg fun m1 k1 => ?_
 simp
 refine hQ _ _ _ (Aab (.inr rfl) Aaa ⟨?_,k1⟩)
 congr 2
 rw [← Bool.coe_iff_coe]
 simp [h]
def bic (a b:Int):Int:=IntKind.i64.wrap (BitVec.ofInt 64 a &&& ~~~ BitVec.ofInt 64 b).toNat
theorem Adt {t:TypeId} {x y:Operand} {a b:Int}:abin Tryz.prog .andNot t x y (int a) (int b) = some (int (bic a b)):=by
 show Option.map AV.sc (pureRun Tryz.prog (do eqGuard .andNot t x y (.int .i64 a) (.int .i64 b); binOp .andNot t (.int .i64 a) (.int .i64 b))) = _
 rfl
theorem Awl {w:Nat} (x m:BitVec w):(x &&& m) ||| (x &&& ~~~ m) = x:=by
 ext i hi
 simp
 cases x[i] <;> cases m[i] <;> rfl
theorem Ao9 (x:BitVec 64) (k:Nat) (hk:k < 64):x &&& ~~~ (BitVec.ofNat 64 (2 ^ k - 1)) = 0 ↔ x.toNat < 2 ^ k:=by
 have h1:(x &&& BitVec.ofNat 64 (2 ^ k - 1)).toNat = x.toNat % 2 ^ k:=by
  rw [BitVec.toNat_and,BitVec.toNat_ofNat,Nat.mod_eq_of_lt,Nat.and_two_pow_sub_one_eq_mod]
  have:2 ^ k ≤ 2 ^ 63:=Nat.pow_le_pow_right (by omega) (by omega)
  have:(2:Nat) ^ 63 < 2 ^ 64:=by decide
  omega
 constructor
 ·intro h
  have:=Awl x (BitVec.ofNat 64 (2 ^ k - 1))
  rw [h] at this
  have h2:x = x &&& BitVec.ofNat 64 (2 ^ k - 1):=by simpa using this.symm
  rw [h2,h1]
  exact Nat.mod_lt _ (Nat.two_pow_pos k)
 ·intro h
  have h2:x = x &&& BitVec.ofNat 64 (2 ^ k - 1):=by
   apply BitVec.eq_of_toNat_eq
   rw [h1,Nat.mod_eq_of_lt h]
  rw [h2,BitVec.and_assoc]
  simp
theorem Aj8 {N:Int} (hN:-9223372036854775808 ≤ N ∧ N ≤ 9223372036854775807) (k:Nat) (hk:k < 63):(IntKind.i64.wrap (BitVec.ofInt 64 N &&& ~~~ (BitVec.ofInt 64 ((2 ^ k - 1:Nat):Int))).toNat = 0) ↔ (0 ≤ N ∧ N < 2 ^ k):=by
 have e:BitVec.ofInt 64 ((2 ^ k - 1:Nat):Int) = BitVec.ofNat 64 (2 ^ k - 1):=by simp
 have h1:=Ao9 (BitVec.ofInt 64 N) k (by omega)
 rw [e]
 have h2:(IntKind.i64.wrap (BitVec.ofInt 64 N &&& ~~~ (BitVec.ofNat 64 (2 ^ k - 1))).toNat = 0) ↔ (BitVec.ofInt 64 N &&& ~~~ (BitVec.ofNat 64 (2 ^ k - 1))) = 0:=by
  have hlt:=(BitVec.ofInt 64 N &&& ~~~ (BitVec.ofNat 64 (2 ^ k - 1))).isLt
  rw [IntKind.wrap_i64]
  constructor
  ·intro h
   apply BitVec.eq_of_toNat_eq
   simp only [BitVec.ofNat_eq_ofNat,BitVec.toNat_ofNat,Nat.zero_mod]
   omega
  ·intro h; rw [h]; simp
 rw [h2,h1,BitVec.toNat_ofInt]
 have hp:(2:Nat) ^ k ≤ 2 ^ 62:=Nat.pow_le_pow_right (by omega) (by omega)
 have hp2:((2 ^ k:Nat):Int) = 2 ^ k:=by simp
 rw [← hp2]
 constructor
 ·intro h; omega
 ·intro h; omega
theorem Awa {N:Int} (hN:-9223372036854775808 ≤ N ∧ N ≤ 9223372036854775807):bic N 1 = 0 ↔ (N = 0 ∨ N = 1):=(Aj8 hN 1 (by omega)).trans (by constructor <;> intro h <;> omega)
theorem Awb {N:Int} (hN:-9223372036854775808 ≤ N ∧ N ≤ 9223372036854775807):bic N 127 = 0 ↔ (0 ≤ N ∧ N ≤ 127):=(Aj8 hN 7 (by omega)).trans (by constructor <;> intro h <;> omega)
@[simp] theorem A18 (l:List Dat):(encs l).isEmpty = l.isEmpty:=by cases l <;> simp [encs]
def Dat.K:Dat → Int | .mk K _ _ _ _ _ => K
def Dat.L:Dat → List Dat | .mk _ _ _ _ L _ => L
def Dat.T:Dat → List Dat | .mk _ _ _ _ _ T => T
def alone:Dat → Bool
 | .mk K N S M L T =>
  if K = 1 then (decide (-1152921504606846976 ≤ N) && decide (N ≤ 1152921504606846975)) && decide (S = []) && M.isEmpty && L.isEmpty && T.isEmpty
  else if K = 2 then (decide (N = 0) || decide (N = 1)) && decide (S = []) && M.isEmpty && L.isEmpty && T.isEmpty
  else if K = 3 then decide (0 ≤ N) && decide (N ≤ 127) && decide (S = []) && M.isEmpty && L.isEmpty && T.isEmpty
  else if K = 4 then (decide (S.length ≤ 256) && S.all asc) && decide (N = 0) && M.isEmpty && L.isEmpty && T.isEmpty
  else if K = 5 then Sym S && (decide (M.length ≤ 16) && !M.any wrong) && decide (N = 0) && L.isEmpty && T.isEmpty
  else if K = 6 ∨ K = 8 then decide (N = 0) && decide (S = []) && M.isEmpty && T.isEmpty
  else if K = 7 then decide (N = 0) && decide (S = []) && M.isEmpty && !L.isEmpty && (match T with | [d] => decide (d.K ≠ 6) && decide (d.K ≠ 7) | _ => false)
  else false
theorem g59 {K N:Int} {S:List UInt8} {M:List Int} {L T:List Dat} (h:Fits K N S M L T):Gives Tryz.prog cf 95 [enc (.mk K N S M L T)] (.sc (.bool (alone (.mk K N S M L T)))):=by
 refine Aba Tryz.func95 rfl rfl rfl (by simp [Tryz.f95]) (by simp [Tryz.f95]) fun m Q hQ => ?_
 simp only [Tryz.f95,show cf.keepRes 95 = false from rfl,enc] at hQ ⊢
 have hm:=h.m
 have hl:=h.l
 have ht:=h.t
 have kp:∀ x y z w:List AV,Kp m ((((m.new x false).new y false).set (m.next + 1) z).set (m.next + 1) w):=fun _ _ _ _ => (((Kp.new _ _ _).newr _ _).set (by simp) _).set (by simp) _
 by_cases h1:K = 1
 ·subst h1
  simp [zeroCells]
  refine Aar (g66 N) fun m1 k1 => ?_
  have e1:=k1.get (m.next + 1) (by simp)
  simp at e1
  have k1':Kp m m1:=.trans (kp _ _ _ _) k1
  cases hb:(decide (-1152921504606846976 ≤ N) && decide (N ≤ 1152921504606846975)) with
  | false =>
   simp
   exact hQ _ _ _ (Aab (.inr rfl) Aaa ⟨by simp [alone,hb],k1'⟩)
  | true =>
   simp [e1]
   refine Aar (g67 (K:=1) (N:=0) (S:=S) (M:=(M.map int)) (L:=(encs L)) (T:=(encs T)) (by simp; try omega) (by simp; try omega) (by simp; try omega)) fun m2 k2 => ?_
   simp
   exact hQ _ _ _ (Aab (.inr rfl) Aaa ⟨by simp [alone,hb,Bool.and_assoc],k1'.trans k2⟩)
 by_cases h2:K = 2
 ·subst h2
  by_cases hb:N = 0 ∨ N = 1
  ·have a4:=(Awa h.n).2 hb
   simp [zeroCells,Adt,a4]
   refine Aar (g67 (K:=2) (N:=0) (S:=S) (M:=(M.map int)) (L:=(encs L)) (T:=(encs T)) (by simp; try omega) (by simp; try omega) (by simp; try omega)) fun m2 k2 => ?_
   simp
   exact hQ _ _ _ (Aab (.inr rfl) Aaa ⟨by simp [alone,hb,Bool.and_assoc],(kp _ _ _ _).trans k2⟩)
  ·have a4:¬ (bic N 1 = 0):=fun h' => hb ((Awa h.n).1 h')
   have hb':(decide (N = 0) || decide (N = 1)) = false:=by
    rw [← Bool.not_eq_true]; simpa using hb
   simp [zeroCells,Adt,a4]
   exact hQ _ _ _ (Aab (.inr rfl) Aaa ⟨by simp [alone,hb'],kp _ _ _ _⟩)
 by_cases h3:K = 3
 ·subst h3
  by_cases hb:0 ≤ N ∧ N ≤ 127
  ·have a4:=(Awb h.n).2 hb
   simp [zeroCells,Adt,a4]
   refine Aar (g67 (K:=3) (N:=0) (S:=S) (M:=(M.map int)) (L:=(encs L)) (T:=(encs T)) (by simp; try omega) (by simp; try omega) (by simp; try omega)) fun m2 k2 => ?_
   simp
   exact hQ _ _ _ (Aab (.inr rfl) Aaa ⟨by simp [alone,hb,Bool.and_assoc],(kp _ _ _ _).trans k2⟩)
  ·have a4:¬ (bic N 127 = 0):=fun h' => hb ((Awb h.n).1 h')
   have hb':(decide (0 ≤ N) && decide (N ≤ 127)) = false:=by
    rw [← Bool.not_eq_true]; simpa using hb
   simp [zeroCells,Adt,a4]
   exact hQ _ _ _ (Aab (.inr rfl) Aaa ⟨by simp [alone,hb'],kp _ _ _ _⟩)
 by_cases h4:K = 4
 ·subst h4
  simp [zeroCells]
  refine Aar (g68 S h.s) fun m1 k1 => ?_
  have e1:=k1.get (m.next + 1) (by simp)
  simp at e1
  have k1':Kp m m1:=.trans (kp _ _ _ _) k1
  cases hb:(decide (S.length ≤ 256) && S.all asc) with
  | false =>
   simp
   exact hQ _ _ _ (Aab (.inr rfl) Aaa ⟨by simp [alone,hb],k1'⟩)
  | true =>
   simp [e1]
   refine Aar (g67 (K:=4) (N:=N) (S:=[]) (M:=(M.map int)) (L:=(encs L)) (T:=(encs T)) (by simp; try omega) (by simp; try omega) (by simp; try omega)) fun m2 k2 => ?_
   simp
   exact hQ _ _ _ (Aab (.inr rfl) Aaa ⟨by simp [alone,hb,Bool.and_assoc],k1'.trans k2⟩)
 by_cases h5:K = 5
 ·subst h5
  have kp5:∀ x y z w v:List AV,Kp m (((((m.new x false).new y false).set (m.next + 1) z).set (m.next + 1) w).set (m.next + 1) v):=fun _ _ _ _ _ => (kp _ _ _ _).set (by simp) _
  simp [zeroCells]
  refine Aar (g12 S (by have:=h.s; omega)) fun m1 k1 => ?_
  have e0:=k1.get m.next (by simp; omega)
  have e1:=k1.get (m.next + 1) (by simp)
  simp at e0 e1
  have k1':Kp m m1:=.trans (kp5 _ _ _ _ _) k1
  cases hs:Sym S with
  | false =>
   simp
   exact hQ _ _ _ (Aab (.inr rfl) Aaa ⟨by simp [alone,hs],k1'⟩)
  | true =>
   simp [e0]
   by_cases hb:M.length ≤ 16
   ·have hb':(M.length:Int) ≤ 16:=by omega
    simp [hb',e0]
    refine Aar (g70 M h.m) fun m2 k2 => ?_
    have f1:=(k2.get (m.next + 1) (by have:=k1.next; simp at this; omega)).trans e1
    cases hw:M.any wrong with
    | true =>
     simp
     exact hQ _ _ _ (Aab (.inr rfl) Aaa ⟨by simp [alone,hs,hw],k1'.trans k2⟩)
    | false =>
     simp [f1]
     refine Aar (g67 (K:=5) (N:=N) (S:=[]) (M:=[]) (L:=(encs L)) (T:=(encs T)) (by simp; try omega) (by simp; try omega) (by simp; try omega)) fun m3 k3 => ?_
     simp
     exact hQ _ _ _ (Aab (.inr rfl) Aaa ⟨by simp [alone,hs,hw,hb,Bool.and_assoc],(k1'.trans k2).trans k3⟩)
   ·have hb':¬ (M.length:Int) ≤ 16:=by omega
    simp [hb']
    exact hQ _ _ _ (Aab (.inr rfl) Aaa ⟨by simp [alone,hs,hb],k1'⟩)
 by_cases h6:K = 6
 ·subst h6
  simp [zeroCells]
  refine Aar (g67 (K:=6) (N:=N) (S:=S) (M:=(M.map int)) (L:=[]) (T:=(encs T)) (by simp; try omega) (by simp; try omega) (by simp; try omega)) fun m2 k2 => ?_
  simp
  exact hQ _ _ _ (Aab (.inr rfl) Aaa ⟨by simp [alone,Bool.and_assoc],(kp _ _ _ _).trans k2⟩)
 by_cases h8:K = 8
 ·subst h8
  simp [zeroCells]
  refine Aar (g67 (K:=8) (N:=N) (S:=S) (M:=(M.map int)) (L:=[]) (T:=(encs T)) (by simp; try omega) (by simp; try omega) (by simp; try omega)) fun m2 k2 => ?_
  simp
  exact hQ _ _ _ (Aab (.inr rfl) Aaa ⟨by simp [alone,Bool.and_assoc],(kp _ _ _ _).trans k2⟩)
 by_cases h7:K = 7
 ·subst h7
  simp [zeroCells]
  have kp5:∀ x y z w v:List AV,Kp m (((((m.new x false).new y false).set (m.next + 1) z).set (m.next + 1) w).set (m.next + 1) v):=fun _ _ _ _ _ => (kp _ _ _ _).set (by simp) _
  cases L with
  | nil =>
   simp [encs]
   exact hQ _ _ _ (Aab (.inr rfl) Aaa ⟨by simp [alone],kp5 _ _ _ _ _⟩)
  | cons l0 lr =>
   simp [encs]
   match T with
   | [] =>
    simp [encs]
    exact hQ _ _ _ (Aab (.inr rfl) Aaa ⟨by simp [alone],kp5 _ _ _ _ _⟩)
   | d :: d2 :: tr =>
    have hne:¬ ((tr.length:Int) + 1 + 1 = 1):=by omega
    simp [encs,hne]
    exact hQ _ _ _ (Aab (.inr rfl) Aaa ⟨by simp [alone],kp5 _ _ _ _ _⟩)
   | [.mk K2 N2 S2 M2 L2 T2] =>
    simp [encs,enc,Aa5 Tryz.underlying23 Ab8]
    by_cases e6:K2 = 6
    ·simp [e6]
     exact hQ _ _ _ (Aab (.inr rfl) Aaa ⟨by simp [alone,Dat.K,e6],kp5 _ _ _ _ _⟩)
    ·by_cases e7:K2 = 7
     ·simp [e6,e7,enc,Aa5 Tryz.underlying23 Ab8]
      exact hQ _ _ _ (Aab (.inr rfl) Aaa ⟨by simp [alone,Dat.K,e7],kp5 _ _ _ _ _⟩)
     ·simp [e6,e7,enc,Aa5 Tryz.underlying23 Ab8]
      refine Aar (g67 (K:=7) (N:=N) (S:=S) (M:=(M.map int)) (L:=[]) (T:=[]) (by simp; try omega) (by simp; try omega) (by simp; try omega)) fun m2 k2 => ?_
      simp
      exact hQ _ _ _ (Aab (.inr rfl) Aaa ⟨by simp [alone,Dat.K,e6,e7,Bool.and_assoc],(kp5 _ _ _ _ _).trans k2⟩)
 ·simp [h1,h2,h3,h4,h5,h6,h7,h8,zeroCells]
  exact hQ _ _ _ (Aab (.inr rfl) Aaa ⟨by simp [alone,h1,h2,h3,h4,h5,h6,h7,h8],((Kp.new _ _ _).newr _ _).set (by simp) _⟩)
def nxt (r:Int × Int × Int) (f:Int → Int → Int × Int × Int):Int × Int × Int:=if r.1 = 0 then f r.2.1 r.2.2 else r
mutual
def wk:Dat → Int → Int → Int → Int × Int × Int
 | .mk K N S M L T,deep,p,q =>
  if 64 < deep then (4,p,q) else if 4096 ≤ p then (3,p,q) else if alone (.mk K N S M L T) = false then (20,p,q) else
  nxt (wks L (deep + 1) (p + 1) (max q deep)) fun p q => wks T (deep + 1) p q
def wks:List Dat → Int → Int → Int → Int × Int × Int
 | [],_,p,q => (0,p,q)
 | d :: l,deep,p,q => nxt (wk d deep p q) fun p q => wks l deep p q
end
structure St (m:Mem) (P Q S T D:Nat) (p q:Int):Prop where
 p:has m P [int p]
 q:has m Q [int q]
 s:has m S [.sc .nilFunc]
 t:has m T [.sc (.bool false)]
 d:has m D [.fn (.func 94) [] [.ptr P 0,.ptr Q 0,.ptr S 0,.ptr T 0,.ptr D 0]]
def two (P Q:Nat) (id:Nat):Prop:=id = P ∨ id = Q
theorem St.kp {m m':Mem} {P Q S T D:Nat} {p q:Int} (h:St m P Q S T D p q) (k:Kp m m'):St m' P Q S T D p q:=⟨h.p.kp k,h.q.kp k,h.s.kp k,h.t.kp k,h.d.kp k⟩
theorem amax2 {t u T:TypeId} {a b:Int} {m:Mem}:abuiltin Tryz.prog .max #[t,u] T [int a,int b] m = some (int (max a b),m):=by
 show Option.map (·,m) (Option.map AV.sc (pureRun Tryz.prog (Builtin.max_ #[t,u] T [Value.int .i64 a,Value.int .i64 b].toArray))) = _
 have:pureRun Tryz.prog (Builtin.max_ #[t,u] T [Value.int .i64 a,Value.int .i64 b].toArray) = some (.int .i64 (if b > a then b else a)):=rfl
 rw [this]
 have:(if b > a then b else a) = max a b:=by simp only [Int.max_def]; split <;> split <;> omega
 rw [this]
 rfl
theorem neqNil {x y:Operand}:abin Tryz.prog .neq 177 x y (.sc .nilFunc) (.sc .nilFunc) = some (.sc (.bool false)):=by
 show Option.map AV.sc (pureRun Tryz.prog (do eqGuard .neq 177 x y .nilFunc .nilFunc; binOp .neq 177 .nilFunc .nilFunc)) = _
 kernel_rfl
theorem g58 (P Qq S T D:Nat) (hd:P ≠ Qq ∧ P ≠ S ∧ P ≠ T ∧ P ≠ D ∧ Qq ≠ S ∧ Qq ≠ T ∧ Qq ≠ D):∀ (n:Nat) (d:Dat),d.size ≤ n → d.fits → ∀ (deep p q:Int) (m:Mem),0 ≤ deep ∧ deep ≤ 1000 → 0 ≤ p → St m P Qq S T D p q →
  wph Tryz.prog cf (.func 94) [enc d,int deep,.ptr P 0,.ptr Qq 0,.ptr S 0,.ptr T 0,.ptr D 0] m fun v m' => v = int (wk d deep p q).1 ∧ St m' P Qq S T D (wk d deep p q).2.1 (wk d deep p q).2.2 ∧ p ≤ (wk d deep p q).2.1 ∧ KpX (two P Qq) m m':=by
 intro n
 induction n with
 | zero => intro d hs; cases d; simp [Dat.size] at hs
 | succ n ih =>
  intro d hs hfit deep p q m hdeep hp hst
  obtain ⟨K,N,Sx,M,L,Tx⟩:=d
  obtain ⟨d1,d2,d3,d4,d5,d6,d7⟩:=hd
  refine Aaf Tryz.func94 rfl rfl (by simp [Tryz.f94]) (by simp [Tryz.f94]) fun Q hQ => ?_
  simp only [Tryz.f94,show cf.keepRes 94 = false from rfl,show cf.keepArgs 94 = false from rfl] at hQ ⊢
  simp only [enc]
  obtain ⟨pl,pv,pe⟩:=hst.p
  obtain ⟨ql,qv,qe⟩:=hst.q
  have pn:P ≠ m.next:=by omega
  by_cases e1:64 < deep
  ·simp [e1]
   refine hQ _ _ _ (Aab (.inr rfl) Aaa ?_)
   refine ⟨by simp [wk,e1],?_,by simp [wk,e1],(KpX.refl _ _).new _ _⟩
   simpa [wk,e1] using hst.kp (.new _ _ _)
  by_cases e2:4096 ≤ p
  ·simp [e1,pe,pn,e2]
   refine hQ _ _ _ (Aab (.inr rfl) Aaa ?_)
   refine ⟨by simp [wk,e1,e2],?_,by simp [wk,e1,e2],(KpX.refl _ _).new _ _⟩
   simpa [wk,e1,e2] using hst.kp (.new _ _ _)
  simp [e1,pe,pn,e2]
  refine Aar (g59 (Abg hfit)) (fun m1 k1 => ?_) (by simp [enc])
  have st1:St m1 P Qq S T D p q:=(hst.kp (.new _ _ _)).kp k1
  have kx1:KpX (two P Qq) m m1:=((KpX.refl _ _).new _ _).trans (.of k1)
  have b1:=k1.get m.next (by simp)
  simp at b1
  cases ha:alone (.mk K N Sx M L Tx) with
  | false =>
   simp
   refine hQ _ _ _ (Aab (.inr rfl) Aaa ?_)
   refine ⟨by simp [wk,e1,e2,ha],?_,by simp [wk,e1,e2,ha],kx1⟩
   simpa [wk,e1,e2,ha] using st1
  | true =>
   obtain ⟨pl1,pv1,pe1⟩:=st1.p
   obtain ⟨ql1,qv1,qe1⟩:=st1.q
   obtain ⟨sl1,sv1,se1⟩:=st1.s
   obtain ⟨tl1,tv1,te1⟩:=st1.t
   have w1:IntKind.i64.wrap (p + 1) = p + 1:=IntWalk.i64_in _ (by omega)
   have n1:m.next < m1.next:=by have:=k1.next; simp at this; omega
   have d1':=Ne.symm d1
   have d2':=Ne.symm d2
   have d3':=Ne.symm d3
   have d5':=Ne.symm d5
   have d6':=Ne.symm d6
   have q1:m.next ≠ P:=by omega
   have q2:m.next ≠ Qq:=by omega
   simp [pe1,qe1,se1,te1,w1,d1,d1',d2,d2',d3,d3',d5,d5',d6,d6',amax2,neqNil,b1,q1,q2,abuildSlice,fillAt,zeros]
   have hL:fitss L:=by rw [Dat.fits] at hfit; exact hfit.2.1
   have hT:fitss Tx:=by rw [Dat.fits] at hfit; exact hfit.2.2
   have hsz:sizes L ≤ n ∧ sizes Tx ≤ n:=by rw [Dat.size] at hs; omega
   let Ls:Nat → List Dat:=fun o => if o = 0 then L else Tx
   let rem:Nat → Int → Int → Int × Int × Int:=fun o p q => if o = 0 then nxt (wks L (deep + 1) p q) fun p q => wks Tx (deep + 1) p q else if o = 1 then wks Tx (deep + 1) p q else (0,p,q)
   have hrem:wk (.mk K N Sx M L Tx) deep p q = rem 0 (p + 1) (max q deep):=by
    simp [wk,e1,e2,ha,rem]
   let slots:Sl → Prop:=fun s => s.at 1 = int deep ∧ s.at 2 = .ptr P 0 ∧ s.at 3 = .ptr Qq 0 ∧ s.at 4 = .ptr S 0 ∧ s.at 5 = .ptr T 0 ∧ s.at 6 = .ptr D 0 ∧ s.at 44 = .sl m1.next 0 2 1 false (some 2) ∧ s.at 45 = int 2
   let mems:Mem → Int → Int → Prop:=fun m' p' q' => St m' P Qq S T D p' q' ∧ has m' m1.next [.lst (encs L),.lst (encs Tx)] ∧ KpX (two P Qq) m m' ∧ p ≤ p'
   refine Ac2 (fun k s m' => ∃ (o:Nat) (p' q':Int),k = 2 - o ∧ o ≤ 2 ∧ slots s ∧ s.at 46 = int o ∧ mems m' p' q' ∧ wk (.mk K N Sx M L Tx) deep p q = rem o p' q') 2 ⟨0,p + 1,max q deep,rfl,by omega,by simp [slots],by simp,?_,hrem⟩ ?_
   ·have stx:∀ m':Mem,m' = ((m1.set P [int (p + 1)]).set Qq [int (max q deep)]).new [.lst (encs L),.lst (encs Tx)] false → mems m' (p + 1) (max q deep):=by
     rintro m' rfl
     have kk:KpX (two P Qq) m1 (((m1.set P [int (p + 1)]).set Qq [int (max q deep)]).new [.lst (encs L),.lst (encs Tx)] false):=(((KpX.refl _ _).set (.inl rfl) _).set (.inr rfl) _).new _ _
     have nP:P ≠ m1.next:=by omega
     have nQ:Qq ≠ m1.next:=by omega
     refine ⟨⟨⟨by simp; omega,?_⟩,⟨by simp; omega,?_⟩,st1.s.kept kk (by unfold two; omega),st1.t.kept kk (by unfold two; omega),st1.d.kept kk (by unfold two; omega)⟩,⟨by simp,?_⟩,kx1.trans kk,by omega⟩
     ·simp [nP,d1]
     ·simp [nQ]
     ·simp
    exact stx _ rfl
   ·rintro k s m2 ⟨o,p2,q2,rfl,ho,hsl,h46,hmem,hw⟩ Q' hn he
    obtain ⟨s1,s2,s3,s4,s5,s6,s44,s45⟩:=hsl
    obtain ⟨st2,hb2,kx2,hp2⟩:=hmem
    obtain ⟨bl2,bv2,be2⟩:=hb2
    simp [s45,h46]
    refine Aas (fun h => ?_) fun h => ?_
    ·have ho2:o < 2:=by simp at h; omega
     have ix:aindexAddr Tryz.prog 187 (.sl m1.next 0 2 1 false (some 2)) (int o) = some (.ptr m1.next (0 + o * 1)):=Aak Tryz.underlying187 As9 ho2
     have gx:([AV.lst (encs L),.lst (encs Tx)]:List AV)[o]? = some (.lst (encs (Ls o))):=by
      rcases (by omega:o = 0 ∨ o = 1) with rfl | rfl <;> simp [Ls]
     simp [s44,h46,ix,be2,gx]
     have hstep:∀ p q,rem o p q = nxt (wks (Ls o) (deep + 1) p q) fun p q => rem (o + 1) p q:=by
      intro p q
      rcases (by omega:o = 0 ∨ o = 1) with rfl | rfl
      ·simp [rem,Ls]
      ·simp only [rem,Ls,nxt]
       simp
       intro h0
       rw [← h0]
     have hfl:fitss (Ls o):=by
      rcases (by omega:o = 0 ∨ o = 1) with rfl | rfl <;> simp [Ls,hL,hT]
     have hlen:(Ls o).length < 2 ^ 21:=by
      have:=Abg hfit
      rcases (by omega:o = 0 ∨ o = 1) with rfl | rfl
      ·exact this.l
      ·exact this.t
     have hsl:sizes (Ls o) ≤ n:=by
      rcases (by omega:o = 0 ∨ o = 1) with rfl | rfl <;> simp [Ls,hsz.1,hsz.2]
     refine Ac2 (fun k s m' => ∃ (i:Nat) (p' q':Int),k = (Ls o).length - i ∧ i ≤ (Ls o).length ∧ slots s ∧ s.at 46 = int o ∧ s.at 50 = .lst (encs (Ls o)) ∧ s.at 51 = int (Ls o).length ∧ s.at 52 = int i ∧ mems m' p' q' ∧ wk (.mk K N Sx M L Tx) deep p q = nxt (wks ((Ls o).drop i) (deep + 1) p' q') fun p q => rem (o + 1) p q) (Ls o).length ⟨0,p2,q2,rfl,by omega,by simp [slots,s1,s2,s3,s4,s5,s6,s44,s45],by simp [h46],by simp,by simp,by simp,⟨st2,⟨bl2,bv2,be2⟩,kx2,hp2⟩,by rw [List.drop_zero,hw,hstep]⟩ ?_
     rintro k s m3 ⟨i,p3,q3,rfl,hi,⟨t1,t2,t3,t4,t5,t6,t44,t45⟩,t46,t50,t51,t52,⟨st3,hb3,kx3,hp3⟩,hw3⟩ Q2 hn2 he2
     simp [t51,t52]
     refine Aas (fun h => ?_) fun h => ?_
     ·have hlt:i < (Ls o).length:=by simpa using h
      obtain ⟨x,hx⟩:∃ x,(Ls o)[i]? = some x:=⟨_,List.getElem?_eq_getElem hlt⟩
      have hxe:(encs (Ls o))[i]? = some (enc x):=by rw [Adn,hx]; rfl
      have hxm:x ∈ Ls o:=List.mem_of_getElem? hx
      have n3:m.next ≤ m3.next:=kx3.next
      obtain ⟨tl3,tv3,te3⟩:=st3.t
      obtain ⟨dl3,dv3,de3⟩:=st3.d
      have tne:T ≠ m3.next:=by omega
      have dne:D ≠ m3.next:=by omega
      simp [t50,t52,Aad Tryz.underlying23 Ab8 hxe (Aax x)]
      have zl:6 ≤ zeroCells.length:=by decide
      have zd:List.drop 6 zeroCells = []:=rfl
      have wd:IntKind.i64.wrap (deep + 1) = deep + 1:=IntWalk.i64_in _ (by omega)
      simp [zl,zd,t1,t2,t3,t4,t5,t6,tne,dne,te3,de3,wd]
      have st4:St ((m3.new zeroCells false).set m3.next (enc x).cells) P Qq S T D p3 q3:=st3.kp ((Kp.new _ _ _).set (Nat.le_refl _) _)
      refine Aae (ih x (by have:=Abj hxm; omega) (Acb hfl hxm) (deep + 1) p3 q3 _ (by omega) (by omega) st4) ?_
      rintro v m5 ⟨rfl,st5,hp5,kx5⟩
      have hdrop:(Ls o).drop i = x :: (Ls o).drop (i + 1):=by
       rw [List.drop_eq_getElem_cons hlt]
       obtain ⟨h1,h2⟩:=List.getElem?_eq_some_iff.1 hx
       rw [h2]
      rw [hdrop,wks] at hw3
      rcases hwx:wk x (deep + 1) p3 q3 with ⟨e,p4,q4⟩
      rw [hwx] at hw3 st5 hp5
      dsimp only at hw3 st5 hp5
      have kx5':KpX (two P Qq) m m5:=(kx3.trans (((KpX.refl _ _).new _ _).setn (Nat.le_refl _) _)).trans kx5
      have hb5:has m5 m1.next [.lst (encs L),.lst (encs Tx)]:=(hb3.kp ((Kp.new _ _ _).set (Nat.le_refl _) _)).kept kx5 (by unfold two; omega)
      by_cases he0:e = 0
      ·subst he0
       simp [t52]
       refine hn2 ((Ls o).length - (i + 1)) _ _ (by omega) ⟨i + 1,p4,q4,rfl,hlt,by simp [slots,t1,t2,t3,t4,t5,t6,t44,t45],by simp [t46],by simp [t50],by simp [t51],?_,⟨st5,hb5,kx5',by omega⟩,hw3⟩
       rw [Aaa,IntWalk.i64_in _ (by omega)]; rfl
      ·simp [he0]
       refine he2 _ _ _ (by simp) ?_
       simp
       refine he _ _ _ (by simp) ?_
       simp
       have hw4:wk (.mk K N Sx M L Tx) deep p q = (e,p4,q4):=by rw [hw3]; simp [nxt,he0]
       refine hQ _ _ _ (Aab (.inr rfl) Aaa ?_)
       rw [hw4]
       exact ⟨rfl,st5,by dsimp only; omega,kx5'⟩
     ·simp
      refine he2 _ _ _ (by simp) ?_
      have hle:i = (Ls o).length:=by simp at h hi ⊢; omega
      rw [List.drop_eq_nil_of_le (by omega)] at hw3
      simp [t46]
      refine hn (2 - (o + 1)) _ _ (by omega) ⟨o + 1,p3,q3,rfl,by omega,by simp [slots,t1,t2,t3,t4,t5,t6,t44,t45],?_,⟨st3,hb3,kx3,hp3⟩,by rw [hw3]; simp [nxt,wks]⟩
      rw [Aaa,IntWalk.i64_in _ (by omega)]; rfl
    ·simp
     refine he _ _ _ (by simp) ?_
     simp
     have ho2:o = 2:=by simp at h; omega
     subst ho2
     refine hQ _ _ _ (Aab (.inr rfl) Aaa ?_)
     rw [hw]
     exact ⟨rfl,st2,hp2,kx2⟩
theorem g43 (d:Dat) (hd:d.fits):Gives Tryz.prog cf 59 [enc d,.sc .nilFunc] (.tup [int (wk d 1 0 0).2.1,int (wk d 1 0 0).2.2,int (wk d 1 0 0).1]):=by
 refine Aba Tryz.func59 rfl rfl rfl (by simp [Tryz.f59]) (by simp [Tryz.f59]) fun m Q hQ => ?_
 simp only [Tryz.f59,show cf.keepRes 59 = false from rfl] at hQ ⊢
 simp [Nat.add_assoc]
 refine Aae (g58 (m.next + 2) (m.next + 3) (m.next + 1) (m.next + 4) (m.next + 5) (by omega) d.size d (Nat.le_refl _) hd 1 0 0 _ (by omega) (by omega) ⟨⟨?_,?_⟩,⟨?_,?_⟩,⟨?_,?_⟩,⟨?_,?_⟩,⟨?_,?_⟩⟩) ?_
 all_goals first
  | (simp [Nat.add_assoc]; done)
  | skip
 rintro v m1 ⟨rfl,st,hp,kx⟩
 obtain ⟨pl,pv,pe⟩:=st.p
 obtain ⟨ql,qv,qe⟩:=st.q
 simp
 refine Aaz (by kernel_rfl) ?_
 simp [pe,qe]
 refine Aon (by kernel_rfl) ?_
 simp
 refine hQ _ _ _ ⟨.inr rfl,_,rfl,?_⟩
 simp [oneOf,fzr]
 refine kx.kp ?_ fun id hid => ?_
 ·exact (((((((((((Kp.new _ _ _).newr _ _).newr _ _).newr _ _).set (by omega) _).set (by omega) _).newr _ _).set (by omega) _).newr _ _).set (by omega) _))
 ·unfold two; omega
def chk (d:Dat):Int:=(wk d 1 0 0).1
theorem g14 (d:Dat) (hd:d.fits):Gives Tryz.prog cf 40 [enc d] (int (chk d)):=by
 refine Aba Tryz.func40 rfl rfl rfl (by simp [Tryz.f40]) (by simp [Tryz.f40]) fun m Q hQ => ?_
 simp only [Tryz.f40,show cf.keepRes 40 = false from rfl] at hQ ⊢
 simp
 refine Aar (g43 d hd) fun m1 k1 => ?_
 simp
 exact hQ _ _ _ (Aab (.inr rfl) Aaa ⟨rfl,(Kp.new _ _ _).trans k1⟩)
structure RS where
 ps:List Dat
 ds:List Int
 e:Int
mutual
def rgo:Dat → Int → RS → RS
 | .mk K N S M L T,deep,r =>
  if r.e ≠ 0 then r else if 64 < deep then { r with e:=4 } else if 4096 ≤ (r.ps.length:Int) then { r with e:=3 } else if alone (.mk K N S M L T) = false then { r with e:=20 } else
  rgos T (deep + 1) (rgos L (deep + 1) ⟨r.ps ++ [.mk K N S M L T],r.ds ++ [deep],0⟩)
def rgos:List Dat → Int → RS → RS
 | [],_,r => r
 | d :: l,deep,r => rgos l deep (rgo d deep r)
end
mutual
theorem rgo_err:∀ (d:Dat) (deep:Int) (r:RS),r.e ≠ 0 → rgo d deep r = r
 | .mk K N S M L T,deep,r,h => by rw [rgo,if_pos h]
theorem rgos_err:∀ (l:List Dat) (deep:Int) (r:RS),r.e ≠ 0 → rgos l deep r = r
 | [],deep,r,h => by rw [rgos]
 | d :: l,deep,r,h => by rw [rgos,rgo_err d deep r h,rgos_err l deep r h]
end
structure Alike (r r':RS) (q:Int) (w:Int × Int × Int):Prop where
 e:r'.e = w.1
 more:∃ (np:List Dat) (nd:List Int),r'.ps = r.ps ++ np ∧ r'.ds = r.ds ++ nd ∧ np.length = nd.length ∧ w.2.1 = r.ps.length + np.length ∧ w.2.2 = nd.foldl max q
mutual
theorem rgo_wk:∀ (d:Dat) (deep:Int) (r:RS) (q:Int),r.e = 0 → Alike r (rgo d deep r) q (wk d deep r.ps.length q)
 | .mk K N S M L T,deep,r,q,h => by
  rw [rgo,wk,if_neg (by simp [h])]
  split
  ·exact ⟨rfl,[],[],by simp,by simp,rfl,by simp,rfl⟩
  split
  ·exact ⟨rfl,[],[],by simp,by simp,rfl,by simp,rfl⟩
  split
  ·exact ⟨rfl,[],[],by simp,by simp,rfl,by simp,rfl⟩
  have h1:=rgos_wk L (deep + 1) ⟨r.ps ++ [.mk K N S M L T],r.ds ++ [deep],0⟩ (max q deep) rfl
  have hl:((r.ps ++ [Dat.mk K N S M L T]).length:Int) = r.ps.length + 1:=by simp
  dsimp only at h1
  rw [hl] at h1
  generalize rgos L (deep + 1) ⟨r.ps ++ [.mk K N S M L T],r.ds ++ [deep],0⟩ = r1 at h1
  generalize wks L (deep + 1) ((r.ps.length:Int) + 1) (max q deep) = w1 at h1
  obtain ⟨he,np,nd,hp,hd,hn,hc,hq⟩:=h1
  dsimp only at hp hd hc
  unfold nxt
  split
  ·rename_i h0
   have h2:=rgos_wk T (deep + 1) r1 w1.2.2 (by rw [he,h0])
   have hl2:(r1.ps.length:Int) = w1.2.1:=by rw [hp,hc]; simp; omega
   rw [hl2] at h2
   obtain ⟨he2,np2,nd2,hp2,hd2,hn2,hc2,hq2⟩:=h2
   refine ⟨he2,.mk K N S M L T :: np ++ np2,deep :: nd ++ nd2,by rw [hp2,hp]; simp,by rw [hd2,hd]; simp,by simp [hn,hn2],?_,?_⟩
   ·rw [hc2,hl2,hc]; simp; omega
   ·rw [hq2,hq]; simp
  ·rename_i h0
   rw [rgos_err T _ _ (by rw [he]; exact h0)]
   refine ⟨he,.mk K N S M L T :: np,deep :: nd,by rw [hp]; simp,by rw [hd]; simp,by simp [hn],?_,?_⟩
   ·rw [hc]; simp; omega
   ·rw [hq]; simp
theorem rgos_wk:∀ (l:List Dat) (deep:Int) (r:RS) (q:Int),r.e = 0 → Alike r (rgos l deep r) q (wks l deep r.ps.length q)
 | [],deep,r,q,h => by rw [rgos,wks]; exact ⟨h,[],[],by simp,by simp,rfl,by simp,rfl⟩
 | d :: l,deep,r,q,h => by
  rw [rgos,wks]
  have h1:=rgo_wk d deep r q h
  generalize rgo d deep r = r1 at h1
  generalize wk d deep r.ps.length q = w1 at h1
  obtain ⟨he,np,nd,hp,hd,hn,hc,hq⟩:=h1
  unfold nxt
  split
  ·rename_i h0
   have h2:=rgos_wk l deep r1 w1.2.2 (by rw [he,h0])
   have hl2:(r1.ps.length:Int) = w1.2.1:=by rw [hp,hc]; simp
   rw [hl2] at h2
   obtain ⟨he2,np2,nd2,hp2,hd2,hn2,hc2,hq2⟩:=h2
   refine ⟨he2,np ++ np2,nd ++ nd2,by rw [hp2,hp]; simp,by rw [hd2,hd]; simp,by simp [hn,hn2],?_,?_⟩
   ·rw [hc2,hl2,hc]; simp; omega
   ·rw [hq2,hq]; simp
  ·rename_i h0
   rw [rgos_err l _ _ (by rw [he]; exact h0)]
   exact ⟨he,np,nd,hp,hd,hn,hc,hq⟩
end
end Go.Proofs.YthegkphhfleghaaGreat
namespace Go.Proofs.YthegkphhfleghaaGreat
set_option maxRecDepth 4000
set_option maxRecDepth 4000
open Go.V
attribute [local simp] Nat.add_assoc
mutual
def eqb:Dat → Dat → Bool
 | .mk K N S M L T,.mk K' N' S' M' L' T' => decide (K = K') && (decide (N = N') && (decide (S = S') && (decide (M = M') && (eqbs L L' && eqbs T T'))))
def eqbs:List Dat → List Dat → Bool
 | [],[] => true
 | a :: l,b :: r => eqb a b && eqbs l r
 | _,_ => false
end
theorem Aha:∀ (L R:List Dat),eqbs L R = true ↔ L.length = R.length ∧ ∀ (j:Nat) a b,L[j]? = some a → R[j]? = some b → eqb a b = true
 | [],[] => by simp [eqbs]
 | [],_ :: _ => by simp [eqbs]
 | _ :: _,[] => by simp [eqbs]
 | a :: l,b :: r => by
  simp only [eqbs,Bool.and_eq_true,Aha l r]
  constructor
  ·rintro ⟨h1,h2,h3⟩
   refine ⟨by simp [h2],fun j x y hx hy => ?_⟩
   cases j with
   | zero => simp at hx hy; subst hx; subst hy; exact h1
   | succ j => exact h3 j x y (by simpa using hx) (by simpa using hy)
  ·rintro ⟨h1,h2⟩
   exact ⟨h2 0 a b rfl rfl,by simpa using h1,fun j x y hx hy => h2 (j + 1) x y (by simpa using hx) (by simpa using hy)⟩
theorem g63 (A B:List Int) (hA:A.length < 2 ^ 21) (hB:B.length < 2 ^ 21):Gives Tryz.prog cf 92 [.lst (A.map int),.lst (B.map int)] (.sc (.bool (decide (A = B)))):=by
 refine Aba Tryz.func92 rfl rfl rfl (by simp [Tryz.f92]) (by simp [Tryz.f92]) fun m Q hQ => ?_
 simp only [Tryz.f92,show cf.keepRes 92 = false from rfl] at hQ ⊢
 simp
 by_cases hl:A.length = B.length
 ·simp [hl]
  refine Aam 13 A.length (fun i s m' => m' = m ∧ ∀ j,j < i → A[j]? = B[j]?) (by simp) (by omega) ⟨rfl,by simp⟩ ?_
  rintro i s _ hi e13 ⟨rfl,hall⟩ hs hw Q' hn he
  have e0:s.at 0 = .lst (A.map int):=(hs 0 (by kernel_rfl)).trans (by simp)
  have e1:s.at 1 = .lst (B.map int):=(hs 1 (by kernel_rfl)).trans (by simp)
  have e12:s.at 12 = int B.length:=(hs 12 (by kernel_rfl)).trans (by simp [hl])
  simp [e13,e12]
  refine Aas (fun h => ?_) fun h => ?_
  ·have hlt:i < A.length:=by simp at h; omega
   obtain ⟨a,ha⟩:∃ a,A[i]? = some a:=⟨_,List.getElem?_eq_getElem hlt⟩
   obtain ⟨b,hb⟩:∃ b,B[i]? = some b:=⟨_,List.getElem?_eq_getElem (by omega)⟩
   have ha':(A.map int)[i]? = some (int a):=by simp [ha]
   have hb':(B.map int)[i]? = some (int b):=by simp [hb]
   simp [e0,e1,e13]
   refine Aaz (by kernel_rfl) ?_
   simp [Aad Tryz.underlying22 Abv ha' (by simp),Aad Tryz.underlying22 Abv hb' (by simp),e0,e1,e13]
   refine Aon (by kernel_rfl) ?_
   simp
   by_cases hab:a = b
   ·simp [hab,e13,hw]
    refine hn _ _ hlt (by simp) ⟨rfl,fun j hj => ?_⟩
    rcases Nat.lt_or_ge j i with h2 | h2
    ·exact hall j h2
    ·obtain rfl:j = i:=by omega
     rw [ha,hb,hab]
   ·simp [hab]
    refine he _ _ _ (by simp) ?_
    simp
    refine hQ _ _ _ (Aab (.inr rfl) Aaa ⟨?_,by simp⟩)
    have:A ≠ B:=by rintro rfl; rw [ha] at hb; cases hb; exact hab rfl
    simp [this]
  ·simp
   refine he _ _ _ (by simp) ?_
   simp
   refine hQ _ _ _ (Aab (.inr rfl) Aaa ⟨?_,by simp⟩)
   have:A = B:=List.ext_getElem? fun j => by
    rcases Nat.lt_or_ge j i with h2 | h2
    ·exact hall j h2
    ·rw [List.getElem?_eq_none (by simp at h; omega),List.getElem?_eq_none (by simp at h; omega)]
   simp [this]
 ·have hl':¬ ((A.length:Int) = B.length):=by omega
  simp [hl']
  refine hQ _ _ _ (Aab (.inr rfl) Aaa ⟨?_,by simp⟩)
  have:A ≠ B:=by rintro rfl; exact hl rfl
  simp [this]
def EqAt (n:Nat):Prop:=∀ (a b:Dat),a.size ≤ n → a.fits → b.fits → Gives Tryz.prog cf 58 [enc a,enc b] (.sc (.bool (eqb a b)))
theorem g64 {n:Nat} (ih:EqAt n) (L R:List Dat) (hs:sizes L ≤ n) (hL:fitss L) (hR:fitss R) (hl1:L.length < 2 ^ 21) (hl2:R.length < 2 ^ 21):Gives Tryz.prog cf 93 [.lst (encs L),.lst (encs R),.fn (.func 58) [] []] (.sc (.bool (eqbs L R))):=by
 refine Aba Tryz.func93 rfl rfl rfl (by simp [Tryz.f93]) (by simp [Tryz.f93]) fun m Q hQ => ?_
 simp only [Tryz.f93,show cf.keepRes 93 = false from rfl] at hQ ⊢
 simp
 by_cases hl:L.length = R.length
 ·simp [hl]
  refine Aam 17 L.length (fun i s m' => Kp m m' ∧ ∀ (j:Nat) a b,j < i → L[j]? = some a → R[j]? = some b → eqb a b = true) (by simp) (by omega) ⟨by simp,by simp⟩ ?_
  rintro i s m' hi e17 ⟨hkp,hall⟩ hs' hw Q' hn he
  have e15:s.at 15 = .lst (encs L):=(hs' 15 (by kernel_rfl)).trans (by simp)
  have e1:s.at 1 = .lst (encs R):=(hs' 1 (by kernel_rfl)).trans (by simp)
  have e2:s.at 2 = .fn (.func 58) [] []:=(hs' 2 (by kernel_rfl)).trans (by simp)
  have e16:s.at 16 = int R.length:=(hs' 16 (by kernel_rfl)).trans (by simp [hl])
  simp [e17,e16]
  refine Aas (fun h => ?_) fun h => ?_
  ·have hlt:i < L.length:=by simp at h; omega
   obtain ⟨a,ha⟩:∃ a,L[i]? = some a:=⟨_,List.getElem?_eq_getElem hlt⟩
   obtain ⟨b,hb⟩:∃ b,R[i]? = some b:=⟨_,List.getElem?_eq_getElem (by omega)⟩
   have ha':(encs L)[i]? = some (enc a):=by rw [Adn,ha]; rfl
   have hb':(encs R)[i]? = some (enc b):=by rw [Adn,hb]; rfl
   have ham:=List.mem_of_getElem? ha
   have hbm:=List.mem_of_getElem? hb
   have:=Abj ham
   simp [e15,e1,e2,e17,Aad Tryz.underlying23 Ab8 ha' (Aax a),Aad Tryz.underlying23 Ab8 hb' (Aax b),(ih a b (by omega) (Acb hL ham) (Acb hR hbm)).go]
   cases hab:eqb a b with
   | true =>
    simp [e17,hw]
    refine hn _ _ hlt (by simp) ⟨hkp.trans (by simp),fun j x y hj hx hy => ?_⟩
    rcases Nat.lt_or_ge j i with h2 | h2
    ·exact hall j x y h2 hx hy
    ·obtain rfl:j = i:=by omega
     rw [ha] at hx; rw [hb] at hy; cases hx; cases hy; exact hab
   | false =>
    simp
    refine he _ _ _ (by simp) ?_
    simp
    refine hQ _ _ _ (Aab (.inr rfl) Aaa ⟨?_,hkp.trans (by simp)⟩)
    have:¬ eqbs L R = true:=fun e => by have:=((Aha L R).1 e).2 i a b ha hb; rw [hab] at this; cases this
    simp [this]
  ·simp
   refine he _ _ _ (by simp) ?_
   simp
   refine hQ _ _ _ (Aab (.inr rfl) Aaa ⟨?_,hkp⟩)
   have:eqbs L R = true:=(Aha L R).2 ⟨hl,fun j x y hx hy => hall j x y (by have:=(List.getElem?_eq_some_iff.1 hx).1; simp at h; omega) hx hy⟩
   simp [this]
 ·have hl':¬ ((L.length:Int) = R.length):=by omega
  simp [hl']
  refine hQ _ _ _ (Aab (.inr rfl) Aaa ⟨?_,by simp⟩)
  have:¬ eqbs L R = true:=fun e => hl ((Aha L R).1 e).1
  simp [this]
theorem eq_at:∀ n,EqAt n
 | 0,a,b,hs,_,_ => by cases a; simp [Dat.size] at hs
 | n + 1,.mk K N S M L T,.mk K' N' S' M' L' T',hs,ha,hb => by
  have fa:=Abg ha
  have fb:=Abg hb
  rw [Dat.fits] at ha hb
  rw [Dat.size] at hs
  refine Aba Tryz.func58 rfl rfl rfl (by simp [Tryz.f58]) (by simp [Tryz.f58]) fun m Q hQ => ?_
  simp only [Tryz.f58,show cf.keepRes 58 = false from rfl,enc] at hQ ⊢
  have c1:=g63 M M' fa.m fb.m
  have c2:=g64 (eq_at n) L L' (by omega) ha.2.1 hb.2.1 fa.l fb.l
  have c3:=g64 (eq_at n) T T' (by omega) ha.2.2 hb.2.2 fa.t fb.t
  simp
  by_cases h1:K = K'
  ·by_cases h2:N = N'
   ·by_cases h3:S = S'
    ·simp [h1,h2,h3,c1.go]
     by_cases h4:M = M'
     ·simp [h4,c2.go]
      cases h5:eqbs L L' with
      | true =>
       simp [c3.go]
       exact hQ _ _ _ (Aab (.inr rfl) Aaa ⟨by simp [eqb,h1,h2,h3,h4,h5],by simp⟩)
      | false =>
       simp
       exact hQ _ _ _ (Aab (.inr rfl) Aaa ⟨by simp [eqb,h1,h2,h3,h4,h5],by simp⟩)
     ·simp [h4]
      exact hQ _ _ _ (Aab (.inr rfl) Aaa ⟨by simp [eqb,h1,h2,h3,h4],by simp⟩)
    ·simp [h1,h2,h3]
     exact hQ _ _ _ (Aab (.inr rfl) Aaa ⟨by simp [eqb,h1,h2,h3],by simp⟩)
   ·simp [h1,h2]
    exact hQ _ _ _ (Aab (.inr rfl) Aaa ⟨by simp [eqb,h1,h2],by simp⟩)
  ·simp [h1]
   exact hQ _ _ _ (Aab (.inr rfl) Aaa ⟨by simp [eqb,h1],by simp⟩)
theorem g54 (a b:Dat) (ha:a.fits) (hb:b.fits):Gives Tryz.prog cf 58 [enc a,enc b] (.sc (.bool (eqb a b))):=eq_at a.size a b (Nat.le_refl _) ha hb
theorem Avt (l:List Int) (hl:l.length < 2 ^ 21) (m:Mem):EH Tryz.prog cf (.func 57) [.lst (l.map int)] m (.lst (l.map int)) m:=by
 refine Am6 rfl (by simp) ?_
 intro x0 l0 e0
 cases l with
 | nil => cases e0
 | cons x l =>
 refine ⟨(m.new [] false).new (int x :: l.map int) false,.inr ⟨1,false,m.next + 1,m.clock + 2,eh_of ?_,by simp,by omega,by simp [Aa3,Am0],rfl,fun y hy => by obtain ⟨x,_,rfl⟩:=List.mem_map.1 hy; simp,Arl _⟩⟩
 refine Aaf Tryz.func57 rfl rfl (by simp [Tryz.f57]) (by simp [Tryz.f57]) fun Q hQ => ?_
 simp only [Tryz.f57,show cf0.keepRes 57 = true from rfl,show cf0.keepArgs 57 = true from rfl] at hQ ⊢
 have e1:=Agp (T:=22) Tryz.underlying22 (x:=int x) (l:=l.map int)
 have e2:=Aft (m:=m.new [] false) (m':=m.new [] false) (ys:=int x :: l.map int) (ys':=int x :: l.map int) (id:=m.next) (v:=m.clock + 1) (ag':=false) el22 (by simp) (by simp [Aan]) (by simp [fzvs]) (by simp) (by simp at hl ⊢; omega)
 simp [abin,plain,e1,abuildSlice,zeros,fillAt,abuiltin,srcOf,elemsOf,e2]
 refine hQ _ _ _ ⟨.inr rfl,_,rfl,?_⟩
 simp [oneOf,Aa3,Am0]
mutual
def Dat.re (f:List Int → List Int):Dat → Dat
 | .mk K N S M L T => .mk K N S (f M) (res f L) (res f T)
def res (f:List Int → List Int):List Dat → List Dat
 | [] => []
 | d :: l => d.re f :: res f l
end
theorem Any (f:List Int → List Int):∀ l,res f l = l.map (Dat.re f)
 | [] => by simp [res]
 | d :: l => by simp [res,Any f l]
def Marks (g:FuncId) (f:List Int → List Int):Prop:=∀ (M:List Int) (m:Mem),M.length < 2 ^ 21 → EH Tryz.prog cf (.func g) [.lst (M.map int)] m (.lst ((f M).map int)) m
theorem A3d:Marks 57 id:=fun M m hM => Avt M hM m
def OwnAt (g:FuncId) (f:List Int → List Int) (n:Nat):Prop:=∀ (d:Dat),d.size ≤ n → d.fits → ∀ m,EH Tryz.prog cf (.func 91) [enc d,.fn (.func g) [] []] m (enc (d.re f)) m
theorem Aqa {g:FuncId} {f:List Int → List Int} {n:Nat} (ih:OwnAt g f n) (L:List Dat) (hs:sizes L ≤ n) (hf:fitss L) (hl:L.length < 2 ^ 21) (m:Mem) (B:Nat) (hB:has m B [.fn (.func g) [] []]):EH Tryz.prog cf (.func 137) [.lst (encs L),.ptr B 0] m (.lst (encs (res f L))) m:=by
 refine Abd Tryz.func137 rfl rfl rfl rfl (args1:=[.lst (encs L),.ptr B 0]) (by simp) (by simp) (by simp [Tryz.f137]) (by simp [Tryz.f137]) ?_
 simp only [Tryz.f137,show cf.keepRes 137 = false from rfl]
 simp
 refine Aam 9 L.length (fun i s m' => Acc m m' 6 true (encs (res f (L.take i))) (s.at 4) ∧ Kp m m') (by simp) (by omega) ⟨by simpa [res,encs] using Acc.nil,by simp⟩ ?_
 rintro i s m' hi e9 ⟨hacc,hkp⟩ hsame hw Q' hn he
 have e7:s.at 7 = .lst (encs L):=(hsame 7 (by kernel_rfl)).trans (by simp)
 have e8:s.at 8 = int L.length:=(hsame 8 (by kernel_rfl)).trans (by simp)
 have e1:s.at 1 = .ptr B 0:=(hsame 1 (by kernel_rfl)).trans (by simp)
 simp [e9,e8]
 refine Aas (fun h => ?_) fun h => ?_
 ·have hlt:i < L.length:=by simpa using h
  obtain ⟨x,hx⟩:∃ x,L[i]? = some x:=⟨_,List.getElem?_eq_getElem hlt⟩
  have hxe:(encs L)[i]? = some (enc x):=by rw [Adn,hx]; rfl
  have hxm:x ∈ L:=List.mem_of_getElem? hx
  obtain ⟨bl,bv,be⟩:=hB.kp hkp
  have bn:B ≠ m'.next:=by omega
  simp [e7,e9,Aad Tryz.underlying23 Ab8 hxe (Aax x),e1,be,bn]
  have:=Abj hxm
  rw [(ih x (by omega) (Acb hf hxm) _).go]
  have hsrc:=Af1 (m:=((m'.new zeroCells false).set m'.next (enc x).cells).new (enc (x.re f)).cells false) (id:=m'.next + 1) (c:=some 1) (k:=6) (ag:=true) (x:=enc (x.re f)) (w:=m'.clock + 3) (f:=false) rfl (by simp) (by simp) (by simp)
  have kp2:Kp m' (((m'.new zeroCells false).set m'.next (enc x).cells).new (enc (x.re f)).cells false):=by simp
  obtain ⟨v',m3,h1,h2,h3⟩:=(hacc.kp kp2).app (Ajv _) el23 (zs:=[enc (x.re f)]) (zs':=[enc (x.re f)]) (List.cons_ne_nil _ _) (by simp [Aan,Aci]) (by simp [fzvs]) (.refl _) (by simp [Adm,Any]; omega) (hkp.trans kp2) rfl
  simp [abuildSlice,fillAt,zeros,abuiltin,hsrc,h1,e9,hw]
  refine hn _ _ hlt (by simp) ⟨?_,h3⟩
  have ht:L.take (i + 1) = L.take i ++ [x]:=by
   obtain ⟨h1,h2⟩:=List.getElem?_eq_some_iff.1 hx
   rw [List.take_succ_eq_append_getElem h1,h2]
  rw [ht]
  simpa [Adm,Any] using h2
 ·simp
  refine he _ _ _ (by simp) ?_
  have hle:i = L.length:=by simp at h hi ⊢; omega
  subst hle
  simp
  obtain ⟨m2,h1,h2⟩:=hacc.fz hkp rfl (fun y hy => by rw [Adm] at hy; obtain ⟨x,_,rfl⟩:=List.mem_map.1 hy; simp) (Ajv _)
  rw [hacc.fzr,h1]
  simpa using h2
theorem At6 {g:FuncId} {f:List Int → List Int} (hg:Marks g f) (hc:∀ M,(f M).length ≤ M.length):∀ n,OwnAt g f n
 | 0,d,hs,hf,m => by cases d; simp [Dat.size] at hs
 | n + 1,.mk K N S M L T,hs,hf,m => by
  have ft:=Abg hf
  rw [Dat.fits] at hf
  rw [Dat.size] at hs
  refine Abd Tryz.func91 rfl rfl rfl rfl (args1:=[enc (.mk K N S M L T),.fn (.func g) [] []]) (by simp) (by simp) (by simp [Tryz.f91]) (by simp [Tryz.f91]) ?_
  simp only [Tryz.f91,show cf.keepRes 91 = false from rfl,enc]
  simp
  rw [(hg M _ ft.m).go]
  simp
  refine Aaz (by kernel_rfl) ?_
  simp
  rw [(Aqa (At6 hg hc n) L (by omega) hf.2.1 ft.l _ (m.next + 1) ⟨by simp,by simp⟩).go]
  simp
  rw [(Aqa (At6 hg hc n) T (by omega) hf.2.2 ft.t _ (m.next + 1) ⟨by simp,by simp⟩).go]
  simp
  refine Aay (l:=[(3,6)]) (by kernel_rfl) ?_ ?_
  ·simp [metAt,metOk,rank,objOf,verKept,Region.wanted,Mem.ver]
  simp [Dat.re,enc]
mutual
theorem re_id:∀ d:Dat,d.re id = d
 | .mk K N S M L T => by simp [Dat.re,res_id L,res_id T]
theorem res_id:∀ l:List Dat,res id l = l
 | [] => by simp [res]
 | d :: l => by simp [res,re_id d,res_id l]
end
def Dat.plain (d:Dat):Dat:=d.re fun _ => []
theorem g47 (d:Dat) (hd:d.fits) (m:Mem):EH Tryz.prog cf (.func 91) [enc d,.fn (.func 57) [] []] m (enc d) m:=by
 have:=At6 A3d (fun _ => Nat.le_refl _) d.size d (Nat.le_refl _) hd m
 rwa [re_id] at this
def Dat.zero:Dat:=.mk 0 0 [] [] [] []
theorem A0r:enc .zero = .agg [int 0,int 0,.sc (.string ⟨⟨[]⟩⟩),.lst [],.lst [],.lst []]:=by simp [Dat.zero,enc,encs]
@[simp] theorem A8h (m:Mem) (d:Dat):fzr m (enc d) = (enc d,m):=by
 have:fzr m (enc d) = fzv m (enc d):=by cases d; simp only [enc]; exact Avd
 rw [this,A3x]
@[simp] theorem A7c (m:Mem):fzs m zeroCells = ((enc .zero).cells,m):=by simp [zeroCells,fzs,A0r]
def sam (a b:Dat):Bool:=decide (chk a = 0) && (decide (chk b = 0) && eqb a b)
theorem g31 (a b:Dat) (ha:a.fits) (hb:b.fits):Gives Tryz.prog cf 39 [enc a,enc b] (.sc (.bool (sam a b))):=by
 refine Aac Tryz.func39 rfl rfl rfl rfl (by simp) (by simp [Tryz.f39]) (by simp [Tryz.f39]) fun m => ?_
 simp +contextual [Tryz.f39,show cf.keepRes 39 = false from rfl,(g14 a ha).go,(g14 b hb).go,(g54 a b ha hb).go,Avb,A3o,Ayy,sam]
def cln (d:Dat):Dat:=if chk d = 0 then d else .zero
theorem g33 (a:Dat) (ha:a.fits):Gives Tryz.prog cf 56 [enc a] (enc (cln a)):=by
 refine Aac Tryz.func56 rfl rfl rfl rfl (by simp) (by simp [Tryz.f56]) (by simp [Tryz.f56]) fun m => ?_
 simp +contextual [Tryz.f56,show cf.keepRes 56 = false from rfl,(g14 a ha).go,(g47 a ha _).go,Avb,cln,abuild,placesOf,fillAt]
def owns:AV → Nat → Prop
 | .sl id _ _ _ _ _,k => id = k
 | _,_ => False
theorem Ap9 {n k:Nat}:owns (.emp n) k ↔ False:=Iff.rfl
theorem A22 {id off len q k:Nat} {ag:Bool} {c:Option Nat}:owns (.sl id off len q ag c) k ↔ id = k:=Iff.rfl
structure RSt (m0 m:Mem) (W:Nat) (pv dv:AV) (r:RS):Prop where
 w:has m W [pv,dv,int r.e]
 p:Acc m0 m 6 true (encs r.ps) pv
 d:Acc m0 m 1 false (r.ds.map int) dv
 kp:Kp m0 m
 wn:m0.next ≤ W
 pw:¬ owns pv W
 dw:¬ owns dv W
 pd:∀ k,owns pv k → ¬ owns dv k
def tch (W:Nat) (pv dv:AV) (k:Nat):Prop:=k = W ∨ owns pv k ∨ owns dv k
theorem Awo {X:Nat → Prop} {m0 m m':Mem} {k:Nat} {ag:Bool} {ys:List AV} {v:AV} (h:Acc m0 m k ag ys v) (kx:KpX X m m') (hx:∀ j,owns v j → ¬ X j):Acc m0 m' k ag ys v:=by
 rcases h with h | ⟨h,id,w,rfl,h2,h3,h4⟩
 ·exact .inl h
 ·exact .inr ⟨h,id,w,rfl,h2,Nat.lt_of_lt_of_le h3 kx.next,by rw [kx.get id h3 (hx id rfl)]; exact h4⟩
theorem Akb {m0 m:Mem} {k:Nat} {ag:Bool} {ys:List AV} {v:AV} (h:Acc m0 m k ag ys v):∀ j,owns v j → m0.next ≤ j ∧ j < m.next:=by
 rcases h with ⟨_,rfl⟩ | ⟨_,id,w,rfl,h2,h3,h4⟩
 ·intro j hj; exact hj.elim
 ·rintro j rfl; exact ⟨h2,h3⟩
theorem KpX.mono {X Y:Nat → Prop} {a b:Mem} (h:KpX X a b) (k:∀ j,j < a.next → X j → Y j):KpX Y a b:=⟨h.next,fun id hi hn => h.get id hi fun hx => hn (k id hi hx),h.x⟩
theorem KpX.toKp {X:Nat → Prop} {m0 a b:Mem} (h:KpX X a b) (k:Kp m0 a) (hx:∀ j,X j → m0.next ≤ j):Kp m0 b:=⟨Nat.le_trans k.next h.next,fun id hi => (h.get id (Nat.lt_of_lt_of_le hi k.next) (fun x => by have:=hx id x; omega)).trans (k.get id hi),k.x.trans k.next h.x⟩
theorem Afq {T:TypeId} {m m' m2:Mem} {k:Nat} {ag:Bool} {ys zs zs':List AV} {v:AV} (h:Acc m m' k ag ys v) (hy:okAll k ys = true) (el:ElemOf Tryz.prog T k ag) (hz:zs ≠ []) (ho:okAll k zs = true) (hf:fzx Tryz.prog T m' zs = (zs',m2)) (hm2:Kp m' m2) (hb:ys.length + zs.length ≤ 2 ^ 26) :
  ∃ m3,aappend Tryz.prog T v none (some zs) m' = some (.sl m2.next 0 (ys.length + zs.length) k ag none,m3) ∧ m3.next = m2.next + 1 ∧ (∃ w,m3.get m2.next = some (.cells (flat (ys ++ zs')) false w)) ∧ (∀ j,j < m2.next → ¬ owns v j → m3.get j = m2.get j) ∧ XK m' m3:=by
 rcases h with ⟨rfl,rfl⟩ | ⟨h,id,w,rfl,h2,h3,h4⟩
 ·have e:=Afu (n:=0) (by omega) el hz ho hf (by simp at hb; omega)
  refine ⟨m2.new (flat zs') false,by simpa using e,by simp,⟨m2.clock + 1,by simp⟩,fun j hj _ => ?_,hm2.x.same rfl rfl⟩
  rw [Mem.get_new,if_neg (by omega)]
 ·have h5:m2.get id = some (.cells (flat ys) false w):=by rw [hm2.get id h3]; exact h4
  refine ⟨_,Afs el hz ho hf h5 (Aav hy) hb,by simp,⟨m2.clock + 1,by simp [Adl]⟩,fun j hj hn => ?_,hm2.x.same rfl rfl⟩
  rw [Mem.get_new,if_neg (by simp; omega),Mem.get_kill,if_neg (fun e => hn e.symm)]
structure Mid (m0 m m':Mem) (W:Nat) (pv dv:AV) (bx:List AV) (r:RS):Prop where
 ex:∃ pv' dv',RSt m0 m' W pv' dv' r ∧ (∀ k,owns pv' k → m.next < k) ∧ (∀ k,owns dv' k → m.next < k)
 len:r.ps.length ≤ 4096 ∧ r.ds.length = r.ps.length
 box:has m' m.next bx
 kx:KpX (tch W pv dv) m m'
theorem Mid.wph {P:Program} {cfg:Cfg} {fn:Fn} {args:List AV} {m0 m m':Mem} {W:Nat} {pv dv:AV} {bx:List AV} {r:RS} (h:Mid m0 m m' W pv dv bx r) (hWm:W < m.next) {r':RS}
  (hc:∀ pv' dv',RSt m0 m' W pv' dv' r → V.wph P cfg fn args m' fun v m2 => v = .tup [] ∧ (r'.ps.length ≤ 4096 ∧ r'.ds.length = r'.ps.length) ∧ ∃ pv2 dv2,RSt m0 m2 W pv2 dv2 r' ∧ KpX (tch W pv' dv') m' m2 ∧ (∀ k,owns pv2 k → owns pv' k ∨ m'.next ≤ k) ∧ (∀ k,owns dv2 k → owns dv' k ∨ m'.next ≤ k)) :
  V.wph P cfg fn args m' fun v m2 => v = .tup [] ∧ Mid m0 m m2 W pv dv bx r':=by
 obtain ⟨pv',dv',h1,h2,h3⟩:=h.ex
 refine Abe (hc pv' dv' h1) ?_
 rintro v m2 ⟨rfl,hl,pv2,dv2,c1,c2,c3,c4⟩
 refine ⟨rfl,?_⟩
 have hlt:=h.box.1
 refine ⟨⟨pv2,dv2,c1,fun k hk => ?_,fun k hk => ?_⟩,hl,h.box.kept c2 ?_,?_⟩
 ·rcases c3 k hk with h | h
  ·exact h2 k h
  ·omega
 ·rcases c4 k hk with h | h
  ·exact h3 k h
  ·omega
 ·rintro (e | e | e)
  ·omega
  ·have:=h2 _ e; omega
  ·have:=h3 _ e; omega
 ·refine ⟨Nat.le_trans h.kx.next c2.next,fun id hi hn => ?_,h.kx.x.trans h.kx.next c2.x⟩
  rw [c2.get id (Nat.lt_of_lt_of_le hi h.kx.next) ?_,h.kx.get id hi hn]
  rintro (e | e | e)
  ·exact hn (.inl e)
  ·have:=h2 _ e; omega
  ·have:=h3 _ e; omega
theorem Aeb {r:Int × Int × Int} {f:Int → Int → Int × Int × Int} (h:(nxt r f).1 = 0):r.1 = 0 ∧ (f r.2.1 r.2.2).1 = 0:=by
 unfold nxt at h
 split at h
 ·exact ⟨‹_›,h⟩
 ·exact absurd h ‹_›
def hlv:Dat → Dat × Dat × Int
 | .mk K N S M L T =>
  if chk (.mk K N S M L T) = 0 then
   if K = 6 ∨ K = 7 then
    match L with
    | [] => (.zero,.zero,6)
    | l :: r => if K = 7 ∧ r = [] then (l,T.headD .zero,0) else (l,.mk K 0 [] [] r T,0)
   else (.zero,.zero,6)
  else (.zero,.zero,chk (.mk K N S M L T))
theorem Azb {P:Program} {cfg:Cfg} {f:FuncId} {fn:Func} {c:Code} {args:List AV} {r:AV} (hf:P.funcs[f]? = some fn) (hb:fn.body = some c) (hk:cfg.hook f = none) (hka:cfg.keepArgs f = false) (hz:∀ m,fzvs m args = (args,m)) (h:∀ m,EH P cfg (.func f) args m r m):Gives P cfg f args r:=by
 intro m0 args0 m hm
 obtain ⟨n,hn⟩:=(h m).one
 have hlen:args.length = args0.length:=by rw [← Adk args0 m0,hm]
 refine .of (n:=n) ?_
 cases n with
 | zero => cases hn
 | succ n =>
  simp only [afn,hk,abody,hf,hb,hka,Bool.false_eq_true,if_false,hm,hz,hlen] at hn ⊢
  exact hn
theorem g47G (d:Dat) (hd:d.fits):Gives Tryz.prog cf 91 [enc d,.fn (.func 57) [] []] (enc d):=Azb Tryz.func91 rfl rfl rfl (by simp) (g47 d hd)
mutual
theorem wk_ok:∀ (d:Dat) (deep p q:Int),(wk d deep p q).1 = 0 → (wk d deep p q).2.1 = p + d.size ∧ p + d.size ≤ 4096
 | .mk K N S M L T,deep,p,q,h => by
  rw [wk] at h ⊢
  split at h
  ·simp at h
  rw [if_neg ‹_›]
  split at h
  ·simp at h
  rw [if_neg ‹_›]
  split at h
  ·simp at h
  rw [if_neg ‹_›]
  obtain ⟨h1,h2⟩:=Aeb h
  have a:=wks_ok L _ _ _ h1
  have b:=wks_ok T _ _ _ h2
  unfold nxt
  rw [if_pos h1,Dat.size]
  dsimp only
  omega
theorem wks_ok:∀ (l:List Dat) (deep p q:Int),(wks l deep p q).1 = 0 → (wks l deep p q).2.1 = p + sizes l ∧ (sizes l = 0 ∨ p + sizes l ≤ 4096)
 | [],deep,p,q,h => by simp [wks,sizes]
 | d :: l,deep,p,q,h => by
  rw [wks] at h ⊢
  obtain ⟨h1,h2⟩:=Aeb h
  have a:=wk_ok d _ _ _ h1
  have b:=wks_ok l _ _ _ h2
  unfold nxt
  rw [if_pos h1,sizes]
  dsimp only
  omega
end
theorem A0y {d:Dat} (h:chk d = 0):d.size ≤ 4096:=by have:=(wk_ok d 1 0 0 h).2; omega
end Go.Proofs.YthegkphhfleghaaGreat
namespace Go.Proofs.YthegkphhfleghaaGreat
set_option maxRecDepth 4000
set_option maxRecDepth 4000
mutual
def good:Dat → Bool
 | .mk K N S M L T => alone (.mk K N S M L T) && (goods L && goods T)
def goods:List Dat → Bool
 | [] => true
 | d :: l => good d && goods l
end
mutual
def dpt:Dat → Int
 | .mk _ _ _ _ L T => 1 + max (dpts L) (dpts T)
def dpts:List Dat → Int
 | [] => 0
 | d :: l => max (dpt d) (dpts l)
end
mutual
theorem dpt_pos:∀ d:Dat,1 ≤ dpt d
 | .mk _ _ _ _ L T => by have:=dpts_pos L; rw [dpt]; omega
theorem dpts_pos:∀ l:List Dat,0 ≤ dpts l
 | [] => by rw [dpts]; omega
 | d :: l => by have:=dpts_pos l; rw [dpts]; omega
end
mutual
theorem wk_yes:∀ (d:Dat) (deep p q:Int),good d = true → p + d.size ≤ 4096 → deep + dpt d - 1 ≤ 64 → wk d deep p q = (0,p + d.size,max q (deep + dpt d - 1))
 | .mk K N S M L T,deep,p,q,hg,hp,hd => by
  rw [good] at hg
  simp only [Bool.and_eq_true] at hg
  rw [Dat.size] at hp
  rw [dpt] at hd
  have dl:=dpts_pos L
  have dt:=dpts_pos T
  rw [wk,if_neg (by omega),if_neg (by omega),if_neg (by simp [hg.1]),wks_yes L _ _ _ hg.2.1 (by omega) (by omega)]
  simp only [nxt,if_true]
  rw [wks_yes T _ _ _ hg.2.2 (by omega) (by omega),Dat.size,dpt]
  have e1:p + 1 + (sizes L:Int) + sizes T = p + ((1 + (sizes L + sizes T):Nat):Int):=by omega
  rw [e1]
  refine Prod.ext rfl (Prod.ext rfl ?_)
  dsimp only
  split <;> split <;> rename_i h1 h2 <;> rcases L with _ | ⟨l,L⟩ <;> rcases T with _ | ⟨t,T⟩ <;> simp_all [dpts] <;> omega
theorem wks_yes:∀ (l:List Dat) (deep p q:Int),goods l = true → p + sizes l ≤ 4096 → deep + dpts l - 1 ≤ 64 → wks l deep p q = (0,p + sizes l,if l = [] then q else max q (deep + dpts l - 1))
 | [],deep,p,q,hg,hp,hd => by simp [wks,sizes]
 | d :: l,deep,p,q,hg,hp,hd => by
  rw [goods] at hg
  simp only [Bool.and_eq_true] at hg
  rw [sizes] at hp
  rw [dpts] at hd
  have dl:=dpts_pos l
  have dd:=dpt_pos d
  rw [wks,wk_yes d _ _ _ hg.1 (by omega) (by omega)]
  simp only [nxt,if_true]
  rw [wks_yes l _ _ _ hg.2 (by omega) (by omega),sizes,dpts]
  refine Prod.ext rfl (Prod.ext ?_ ?_)
  ·dsimp only; omega
  ·dsimp only
   have ne:¬ (d :: l = []):=by simp
   rw [if_neg ne]
   split
   ·rename_i e; subst e; simp only [dpts]; omega
   ·omega
end
mutual
theorem wk_bad:∀ (d:Dat) (deep p q:Int),good d = true → (wk d deep p q).1 = 0 ∨ (wk d deep p q).1 = 3 ∨ (wk d deep p q).1 = 4
 | .mk K N S M L T,deep,p,q,hg => by
  rw [good] at hg
  simp only [Bool.and_eq_true] at hg
  rw [wk]
  split
  ·simp
  split
  ·simp
  rw [if_neg (by simp [hg.1])]
  unfold nxt
  split
  ·exact wks_bad T _ _ _ hg.2.2
  ·exact wks_bad L _ _ _ hg.2.1
theorem wks_bad:∀ (l:List Dat) (deep p q:Int),goods l = true → (wks l deep p q).1 = 0 ∨ (wks l deep p q).1 = 3 ∨ (wks l deep p q).1 = 4
 | [],deep,p,q,hg => by simp [wks]
 | d :: l,deep,p,q,hg => by
  rw [goods] at hg
  simp only [Bool.and_eq_true] at hg
  rw [wks]
  unfold nxt
  split
  ·exact wks_bad l _ _ _ hg.2
  ·exact wk_bad d _ _ _ hg.1
end
mutual
theorem wk_good:∀ (d:Dat) (deep p q:Int),(wk d deep p q).1 = 0 → good d = true ∧ deep + dpt d - 1 ≤ 64
 | .mk K N S M L T,deep,p,q,h => by
  rw [wk] at h
  split at h
  ·simp at h
  split at h
  ·simp at h
  split at h
  ·simp at h
  rename_i h1 h2 h3
  obtain ⟨a,b⟩:=Aeb h
  have hL:=wks_good L _ _ _ a
  have hT:=wks_good T _ _ _ b
  have dl:=dpts_pos L
  have dt:=dpts_pos T
  rw [good,dpt]
  refine ⟨by simp at h3; simp [h3,hL.1,hT.1],?_⟩
  omega
theorem wks_good:∀ (l:List Dat) (deep p q:Int),(wks l deep p q).1 = 0 → goods l = true ∧ (dpts l = 0 ∨ deep + dpts l - 1 ≤ 64)
 | [],deep,p,q,h => by simp [goods,dpts]
 | d :: l,deep,p,q,h => by
  rw [wks] at h
  obtain ⟨a,b⟩:=Aeb h
  have hd:=wk_good d _ _ _ a
  have hl:=wks_good l _ _ _ b
  rw [goods,dpts]
  refine ⟨by simp [hd.1,hl.1],?_⟩
  omega
end
theorem A0z {d:Dat} (h:chk d = 0):good d = true ∧ d.size ≤ 4096 ∧ dpt d ≤ 64:=by
 have:=wk_good d 1 0 0 h
 exact ⟨this.1,A0y h,by omega⟩
end Go.Proofs.YthegkphhfleghaaGreat
namespace Go.V
open Go.RowKit
variable {P:Program}
def has (m:Mem) (id:Nat) (cs:List AV):Prop:=id < m.next ∧ ∃ v,m.get id = some (.cells cs false v)
structure KpX (X:Nat → Prop) (m m':Mem):Prop where
 next:m.next ≤ m'.next
 get:∀ id,id < m.next → ¬ X id → m'.get id = m.get id
 x:XK m m'
theorem KpX.refl (X:Nat → Prop) (m:Mem):KpX X m m:=⟨Nat.le_refl _,fun _ _ _ => rfl,.refl m⟩
theorem KpX.trans {X:Nat → Prop} {a b c:Mem} (h:KpX X a b) (k:KpX X b c):KpX X a c:=⟨Nat.le_trans h.next k.next,fun id hi hx => (k.get id (Nat.lt_of_lt_of_le hi h.next) hx).trans (h.get id hi hx),h.x.trans h.next k.x⟩
theorem KpX.of {X:Nat → Prop} {a b:Mem} (h:Kp a b):KpX X a b:=⟨h.next,fun id hi _ => h.get id hi,h.x⟩
theorem KpX.set {X:Nat → Prop} {a b:Mem} (h:KpX X a b) {id:Nat} (hx:X id) (cs:List AV):KpX X a (b.set id cs):=⟨h.next,fun j hj hn => by rw [Mem.get_set,if_neg (by rintro rfl; exact hn hx)]; exact h.get j hj hn,h.x.same rfl rfl⟩
theorem KpX.setn {X:Nat → Prop} {a b:Mem} (h:KpX X a b) {id:Nat} (hx:a.next ≤ id) (cs:List AV):KpX X a (b.set id cs):=⟨h.next,fun j hj hn => by rw [Mem.get_set,if_neg (by omega)]; exact h.get j hj hn,h.x.same rfl rfl⟩
theorem KpX.new {X:Nat → Prop} {a b:Mem} (h:KpX X a b) (cs:List AV) (f:Bool):KpX X a (b.new cs f):=h.trans (.of (.new _ _ _))
theorem has.kept {X:Nat → Prop} {m m':Mem} {id:Nat} {cs:List AV} (h:has m id cs) (k:KpX X m m') (hx:¬ X id):has m' id cs:=⟨Nat.lt_of_lt_of_le h.1 k.next,by rw [k.get id h.1 hx]; exact h.2⟩
theorem has.kp {m m':Mem} {id:Nat} {cs:List AV} (h:has m id cs) (k:Kp m m'):has m' id cs:=⟨Nat.lt_of_lt_of_le h.1 k.next,by rw [k.get id h.1]; exact h.2⟩
theorem KpX.kp {X:Nat → Prop} {a b c:Mem} (h:KpX X b c) (k:Kp a b) (hx:∀ id,id < a.next → ¬ X id):Kp a c:=⟨Nat.le_trans k.next h.next,fun id hi => (h.get id (Nat.lt_of_lt_of_le hi k.next) (hx id hi)).trans (k.get id hi),k.x.trans k.next h.x⟩
def owns:AV → Nat → Prop
 | .sl id _ _ _ _ _,k => id = k
 | _,_ => False
theorem Ap9 {n k:Nat}:owns (.emp n) k ↔ False:=Iff.rfl
theorem A22 {id off len q k:Nat} {ag:Bool} {c:Option Nat}:owns (.sl id off len q ag c) k ↔ id = k:=Iff.rfl
theorem Awo {X:Nat → Prop} {m0 m m':Mem} {k:Nat} {ag:Bool} {ys:List AV} {v:AV} (h:Acc m0 m k ag ys v) (kx:KpX X m m') (hx:∀ j,owns v j → ¬ X j):Acc m0 m' k ag ys v:=by
 rcases h with h | ⟨h,id,w,rfl,h2,h3,h4⟩
 ·exact .inl h
 ·exact .inr ⟨h,id,w,rfl,h2,Nat.lt_of_lt_of_le h3 kx.next,by rw [kx.get id h3 (hx id rfl)]; exact h4⟩
theorem Akb {m0 m:Mem} {k:Nat} {ag:Bool} {ys:List AV} {v:AV} (h:Acc m0 m k ag ys v):∀ j,owns v j → m0.next ≤ j ∧ j < m.next:=by
 rcases h with ⟨_,rfl⟩ | ⟨_,id,w,rfl,h2,h3,h4⟩
 ·intro j hj; exact hj.elim
 ·rintro j rfl; exact ⟨h2,h3⟩
theorem KpX.mono {X Y:Nat → Prop} {a b:Mem} (h:KpX X a b) (k:∀ j,j < a.next → X j → Y j):KpX Y a b:=⟨h.next,fun id hi hn => h.get id hi fun hx => hn (k id hi hx),h.x⟩
theorem KpX.toKp {X:Nat → Prop} {m0 a b:Mem} (h:KpX X a b) (k:Kp m0 a) (hx:∀ j,X j → m0.next ≤ j):Kp m0 b:=⟨Nat.le_trans k.next h.next,fun id hi => (h.get id (Nat.lt_of_lt_of_le hi k.next) (fun x => by have:=hx id x; omega)).trans (k.get id hi),k.x.trans k.next h.x⟩
theorem Afq {T:TypeId} {m m' m2:Mem} {k:Nat} {ag:Bool} {ys zs zs':List AV} {v:AV} (h:Acc m m' k ag ys v) (hy:okAll k ys = true) (el:ElemOf P T k ag) (hz:zs ≠ []) (ho:okAll k zs = true) (hf:fzx P T m' zs = (zs',m2)) (hm2:Kp m' m2) (hb:ys.length + zs.length ≤ 2 ^ 26) :
  ∃ m3,aappend P T v none (some zs) m' = some (.sl m2.next 0 (ys.length + zs.length) k ag none,m3) ∧ m3.next = m2.next + 1 ∧ (∃ w,m3.get m2.next = some (.cells (flat (ys ++ zs')) false w)) ∧ (∀ j,j < m2.next → ¬ owns v j → m3.get j = m2.get j) ∧ XK m' m3:=by
 rcases h with ⟨rfl,rfl⟩ | ⟨h,id,w,rfl,h2,h3,h4⟩
 ·have e:=Afu (n:=0) (by omega) el hz ho hf (by simp at hb; omega)
  refine ⟨m2.new (flat zs') false,by simpa using e,by simp,⟨m2.clock + 1,by simp⟩,fun j hj _ => ?_,hm2.x.same rfl rfl⟩
  rw [Mem.get_new,if_neg (by omega)]
 ·have h5:m2.get id = some (.cells (flat ys) false w):=by rw [hm2.get id h3]; exact h4
  refine ⟨_,Afs el hz ho hf h5 (Aav hy) hb,by simp,⟨m2.clock + 1,by simp [Adl]⟩,fun j hj hn => ?_,hm2.x.same rfl rfl⟩
  rw [Mem.get_new,if_neg (by simp; omega),Mem.get_kill,if_neg (fun e => hn e.symm)]
theorem A4q {m m':Mem} {k:Nat} {ag:Bool} {ys:List AV} {v:AV} (h:Acc m m' k ag ys v) (ha:(ag || k == 1) = true) (hy:∀ y ∈ ys,y.cells.length = k ∧ (if ag then AV.agg y.cells = y else y.cells = [y])) (ho:okAll k ys = true):∃ m2,fz1 m' v = (.lst ys,m2) ∧ KpX (owns v) m' m2:=by
 rcases h with ⟨rfl,rfl⟩ | ⟨h,id,w,rfl,h2,h3,h4⟩
 ·exact ⟨m',rfl,KpX.refl _ _⟩
 ·exact ⟨_,Aeu ha h4 hy ho,⟨Nat.le_of_eq (Mem.next_mark _ _ _ _).symm,fun j hj hn => by rw [Mem.get_mark,if_neg (fun e => hn e.symm)],(XK.refl _).same rfl rfl⟩⟩
structure KpC (X:Nat → Prop) (m m':Mem):Prop where
 next:m.next ≤ m'.next
 get:∀ id,id < m.next → ¬ X id → m'.get id = m.get id
 x:∀ id,id < m.next → ¬ X id → m'.loop id = m.loop id ∧ m'.map id = m.map id
theorem KpC.refl (X:Nat → Prop) (m:Mem):KpC X m m:=⟨Nat.le_refl _,fun _ _ _ => rfl,fun _ _ _ => ⟨rfl,rfl⟩⟩
theorem KpC.trans {X:Nat → Prop} {a b c:Mem} (h:KpC X a b) (k:KpC X b c):KpC X a c:=⟨Nat.le_trans h.next k.next,fun id hi hx => (k.get id (Nat.lt_of_lt_of_le hi h.next) hx).trans (h.get id hi hx),fun id hi hx => ⟨(k.x id (Nat.lt_of_lt_of_le hi h.next) hx).1.trans (h.x id hi hx).1,(k.x id (Nat.lt_of_lt_of_le hi h.next) hx).2.trans (h.x id hi hx).2⟩⟩
theorem KpC.of {X:Nat → Prop} {a b:Mem} (h:KpX X a b):KpC X a b:=⟨h.next,h.get,fun id hi _ => h.x id hi⟩
theorem KpC.mono {X Y:Nat → Prop} {a b:Mem} (h:KpC X a b) (k:∀ j,X j → Y j):KpC Y a b:=⟨h.next,fun id hi hx => h.get id hi fun x => hx (k id x),fun id hi hx => h.x id hi fun x => hx (k id x)⟩
theorem has.kc {X:Nat → Prop} {m m':Mem} {id:Nat} {cs:List AV} (h:has m id cs) (k:KpC X m m') (hx:¬ X id):has m' id cs:=⟨Nat.lt_of_lt_of_le h.1 k.next,by rw [k.get id h.1 hx]; exact h.2⟩
theorem KpC.after {X Y:Nat → Prop} {m m1 m2:Mem} (h:Kp m m1) (k:KpC Y m1 m2) (hf:∀ i,i < m.next → Y i → X i):KpC X m m2 :=
 ⟨Nat.le_trans h.next k.next,fun id hi hx => (k.get id (Nat.lt_of_lt_of_le hi h.next) fun y => hx (hf id hi y)).trans (h.get id hi),fun id hi hx => ⟨(k.x id (Nat.lt_of_lt_of_le hi h.next) fun y => hx (hf id hi y)).1.trans (h.x id hi).1,(k.x id (Nat.lt_of_lt_of_le hi h.next) fun y => hx (hf id hi y)).2.trans (h.x id hi).2⟩⟩
theorem Afp {X:Nat → Prop} {m0 m m':Mem} {k:Nat} {ag:Bool} {ys:List AV} {v:AV} (h:Acc m0 m k ag ys v) (kx:KpC X m m') (hx:∀ j,owns v j → ¬ X j):Acc m0 m' k ag ys v:=by
 rcases h with h | ⟨h,id,w,rfl,h2,h3,h4⟩
 ·exact .inl h
 ·exact .inr ⟨h,id,w,rfl,h2,Nat.lt_of_lt_of_le h3 kx.next,by rw [kx.get id h3 (hx id rfl)]; exact h4⟩
theorem Kp.loops {m a b:Mem} (h:Kp m a) (hn:a.next ≤ b.next) (hg:∀ i,b.get i = a.get i) (hl:∀ i,i < m.next → b.loop i = a.loop i) (hm:∀ i,i < m.next → b.map i = a.map i):Kp m b :=
 ⟨Nat.le_trans h.next hn,fun i hi => (hg i).trans (h.get i hi),fun i hi => ⟨(hl i hi).trans (h.x i hi).1,(hm i hi).trans (h.x i hi).2⟩⟩
theorem Kp.newLoop {m a:Mem} (h:Kp m a) (c:LCode):Kp m (a.newLoop c):=h.loops (by simp) (fun i => by simp) (fun i hi => by have:=h.next; simp; omega) fun i hi => by simp
theorem Kp.setLoop {m a:Mem} (h:Kp m a) {id:Nat} (hi:m.next ≤ id) (st:LoopState) (p:Option Code) (c:LCode):Kp m (a.setLoop id st p c):=h.loops (by simp) (fun i => by simp) (fun i hj => by simp; omega) fun i hi => by simp
theorem Kp.killLoop {m a:Mem} (h:Kp m a) {id:Nat} (hi:m.next ≤ id):Kp m (a.killLoop id):=h.loops (by simp) (fun i => by simp) (fun i hj => by simp; omega) fun i hi => by simp
theorem Mem.map_setMap {m:Mem} {id i:Nat} {es:List (Value × AV × Nat)} {ck:Nat}:(m.setMap id es ck).map i = if i = id then some ⟨es,ck,m.clock + 1⟩ else m.map i:=by simp [Mem.setMap,Mem.map]
theorem Mem.map_newMap {m:Mem} {i:Nat}:m.newMap.map i = if i = m.next then some ⟨[],0,m.clock + 1⟩ else m.map i:=by simp [Mem.newMap,Mem.map]
theorem Mem.get_setMap {m:Mem} {id i:Nat} {es:List (Value × AV × Nat)} {ck:Nat}:(m.setMap id es ck).get i = m.get i:=Eq.trans rfl rfl
theorem Mem.get_newMap {m:Mem} {i:Nat}:m.newMap.get i = m.get i:=Eq.trans rfl rfl
theorem Mem.loop_setMap {m:Mem} {id i:Nat} {es:List (Value × AV × Nat)} {ck:Nat}:(m.setMap id es ck).loop i = m.loop i:=Eq.trans rfl rfl
theorem Mem.loop_newMap {m:Mem} {i:Nat}:m.newMap.loop i = m.loop i:=Eq.trans rfl rfl
theorem Mem.next_setMap {m:Mem} {id:Nat} {es:List (Value × AV × Nat)} {ck:Nat}:(m.setMap id es ck).next = m.next:=Eq.trans rfl rfl
theorem Mem.next_newMap {m:Mem}:m.newMap.next = m.next + 1:=Eq.trans rfl rfl
theorem Mem.clock_setMap {m:Mem} {id:Nat} {es:List (Value × AV × Nat)} {ck:Nat}:(m.setMap id es ck).clock = m.clock + 1:=Eq.trans rfl rfl
theorem Mem.clock_newMap {m:Mem}:m.newMap.clock = m.clock + 1:=Eq.trans rfl rfl
attribute [simp] Mem.map_setMap Mem.map_newMap Mem.get_setMap Mem.get_newMap Mem.loop_setMap Mem.loop_newMap Mem.next_setMap Mem.next_newMap Mem.clock_setMap Mem.clock_newMap
theorem Kp.newMap {m a:Mem} (h:Kp m a):Kp m a.newMap:=h.loops (by simp) (fun i => by simp) (fun i hi => by simp) fun i hi => by have:=h.next; simp; omega
theorem Kp.setMap {m a:Mem} (h:Kp m a) {id:Nat} (hi:m.next ≤ id) (es:List (Value × AV × Nat)) (ck:Nat):Kp m (a.setMap id es ck):=h.loops (by simp) (fun i => by simp) (fun i hi => by simp) fun i hj => by simp; omega
theorem Kp.newLoop_eq {m a:Mem} {c:LCode} (hi:m.next ≤ a.next):Kp m (a.newLoop c) = Kp m a:=by
 refine propext ⟨fun h => ⟨hi,fun j hj => by simpa using h.get j hj,fun j hj => ?_⟩,fun h => h.newLoop c⟩
 have q:=h.x j hj
 have e:j ≠ a.next:=by omega
 simpa [e] using q
theorem Kp.killLoop_eq {m a:Mem} {id:Nat} (hi:m.next ≤ id):Kp m (a.killLoop id) = Kp m a:=by
 refine propext ⟨fun h => ⟨(by simpa using h.next),fun j hj => by simpa using h.get j hj,fun j hj => ?_⟩,fun h => h.killLoop hi⟩
 have q:=h.x j hj
 have e:j ≠ id:=by omega
 simpa [e] using q
theorem Kp.newMap_eq {m a:Mem}  (hi:m.next ≤ a.next):Kp m (a.newMap) = Kp m a:=by
 refine propext ⟨fun h => ⟨hi,fun j hj => by simpa using h.get j hj,fun j hj => ?_⟩,fun h => h.newMap⟩
 have q:=h.x j hj
 have e:j ≠ a.next:=by omega
 simpa [e] using q
theorem Kp.setMap_eq {m a:Mem} {id:Nat} {es:List (Value × AV × Nat)} {ck:Nat} (hi:m.next ≤ id):Kp m (a.setMap id es ck) = Kp m a:=by
 refine propext ⟨fun h => ⟨(by simpa using h.next),fun j hj => by simpa using h.get j hj,fun j hj => ?_⟩,fun h => h.setMap hi es ck⟩
 have q:=h.x j hj
 have e:j ≠ id:=by omega
 simpa [e] using q
attribute [simp] Kp.newLoop_eq Kp.killLoop_eq Kp.newMap_eq Kp.setMap_eq
theorem KpC.toKp {X:Nat → Prop} {m0 a b:Mem} (h:KpC X a b) (k:Kp m0 a) (hx:∀ j,X j → m0.next ≤ j):Kp m0 b :=
 ⟨Nat.le_trans k.next h.next,fun id hi => (h.get id (Nat.lt_of_lt_of_le hi k.next) (fun x => by have:=hx id x; omega)).trans (k.get id hi),fun id hi => have q:=h.x id (Nat.lt_of_lt_of_le hi k.next) (fun x => by have:=hx id x; omega); ⟨q.1.trans (k.x id hi).1,q.2.trans (k.x id hi).2⟩⟩
section
variable {cfg:Cfg} {N:Nat} {Q:Ex → Sl → Mem → Prop} {d:Option Tmp} {T:TypeId} {p:String} {af:Array Edge} {gd:Option (Nat × Bool)} {k:List It} {s:Sl} {m:Mem}
theorem Aoj {t:TypeId} {r:Option Operand}:goS P cfg N Q ⟨d,.makeMap t r,T,p,af,gd⟩ k s m = goR P cfg N Q (amakeMap P t (r.map (ev s)) m) d k s:=Eq.trans rfl rfl
theorem Aof {t:TypeId} {r:Option Operand}:goU P cfg N Q ⟨d,.makeMap t r,T,p,af,gd⟩ k s m = goR P cfg N Q (amakeMap P t (r.map (ev s)) m) d k s:=Eq.trans rfl rfl
theorem Ar9 {t:TypeId} {x y:Operand} {ok:Bool}:goS P cfg N Q ⟨d,.lookup t x y ok,T,p,af,gd⟩ k s m = goR P cfg N Q ((alookup P t (ev s x) (ev s y) ok m).map (·,m)) d k s:=Eq.trans rfl rfl
theorem Ar6 {t:TypeId} {x y:Operand} {ok:Bool}:goU P cfg N Q ⟨d,.lookup t x y ok,T,p,af,gd⟩ k s m = goR P cfg N Q ((alookup P t (ev s x) (ev s y) ok m).map (·,m)) d k s:=Eq.trans rfl rfl
theorem Ak0 {t:TypeId} {x y z:Operand}:goS P cfg N Q ⟨d,.mapUpdate t x y z,T,p,af,gd⟩ k s m = goR P cfg N Q ((amapUpdate P t (ev s x) (ev s y) (ev s z) m).map (undefV,·)) d k s:=Eq.trans rfl rfl
theorem Akx {t:TypeId} {x y z:Operand}:goU P cfg N Q ⟨d,.mapUpdate t x y z,T,p,af,gd⟩ k s m = goR P cfg N Q ((amapUpdate P t (ev s x) (ev s y) (ev s z) m).map (undefV,·)) d k s:=Eq.trans rfl rfl
theorem Ar7 {t:TypeId} {x y z:Operand}:goU P cfg N Q ⟨d,.insert t x y z,T,p,af,gd⟩ k s m = goR P cfg N Q ((amapUpdate P t (ev s x) (ev s y) (ev s z) m).map (undefV,·)) d k s:=Eq.trans rfl rfl
theorem Aml {t:TypeId} {x y:Operand}:goS P cfg N Q ⟨d,.mapEntry t x y,T,p,af,gd⟩ k s m = goR P cfg N Q (amapEntry P t (ev s x) (ev s y) m) d k s:=Eq.trans rfl rfl
theorem Ai3 {t:TypeId} {x y z:Operand}:goS P cfg N Q ⟨d,.entryStore t x y z,T,p,af,gd⟩ k s m = goR P cfg N Q ((aentryStore (ev s x) (ev s y) (ev s z) m).map (undefV,·)) d k s:=Eq.trans rfl rfl
attribute [simp] Aof Ar6 Akx Ar7 Aoj Ar9 Ak0 Aml Ai3
end
theorem Abc {t:TypeId} {kt:TypeId × TypeId} (h:tmap P t = some kt) {m:Mem}:amakeMap P t none m = some (.mp m.next,m.newMap):=by unfold amakeMap; rw [h]
theorem Aif {k:List UInt8}:∀ (ks:List (List UInt8)) (i:Nat),Instr.findNow .string (.string ⟨⟨k⟩⟩) (ks.map fun x => ⟨.string ⟨⟨x⟩⟩,undef,0⟩) i = some ((ks.findIdx? fun x => decide (x = k)).map fun j => (j + i,undef))
 | [],i => rfl
 | x :: ks,i => by
  simp only [List.map_cons,Instr.findNow,List.findIdx?_cons]
  have h:Instr.sameNow .string (.string ⟨⟨k⟩⟩) (.string ⟨⟨x⟩⟩) = some (decide (x = k)):=by
   show some ((⟨⟨k⟩⟩:ByteArray) == ⟨⟨x⟩⟩) = _
   have e:((⟨⟨k⟩⟩:ByteArray) == ⟨⟨x⟩⟩) = ((⟨k⟩:Array UInt8) == ⟨x⟩):=rfl
   rw [e]
   congr 1
   rw [Bool.eq_iff_iff]
   simp only [beq_iff_eq,decide_eq_true_eq,Array.mk.injEq]
   exact eq_comm
  rw [h]
  by_cases e:x = k
  ·simp [e]
  ·simp only [e,decide_false,Aif ks (i + 1)]
   cases ks.findIdx? fun x => decide (x = k) with
   | none => simp
   | some j => simp; omega
theorem Ani {T:TypeId} (hT:P.underlying T = some .string) (k:List UInt8) (ks:List (List UInt8)):afind P T (.string ⟨⟨k⟩⟩) (ks.map fun x => .string ⟨⟨x⟩⟩) = some (ks.findIdx? fun x => decide (x = k)):=by
 have e:(ks.map fun x => Value.string ⟨⟨x⟩⟩).map (fun x => (⟨x,undef,0⟩:MapEntry)) = ks.map fun x => ⟨.string ⟨⟨x⟩⟩,undef,0⟩:=by rw [List.map_map]; rfl
 unfold afind
 rw [hT]
 dsimp only
 rw [e,Aif]
 cases ks.findIdx? fun x => decide (x = k) <;> simp
theorem Aq0 {T:TypeId} (hT:P.underlying T = some .string) (e:Bool) (k:List UInt8):akey P T e (.sc (.string ⟨⟨k⟩⟩)) = some (.string ⟨⟨k⟩⟩):=by
 have h:pureRun P (Instr.checkKey e 10000 T (.string ⟨⟨k⟩⟩)) = some ():=by
  rw [show (10000:Nat) = 9999 + 1 from rfl]
  unfold Instr.checkKey
  rw [Aag,Aaj hT]
  rfl
 unfold akey
 simp [plain,h]
theorem Apa {t kt et:TypeId} (h:tmap P t = some (kt,et)) (hk:P.underlying kt = some .string) {m:Mem} {id:Nat} {M:AMap} (hM:m.map id = some M) {ks:List (List UInt8)} (hs:M.es.map (·.1) = ks.map fun x => .string ⟨⟨x⟩⟩) (k:List UInt8) (ok:Bool) :
  alookup P t (.mp id) (.sc (.string ⟨⟨k⟩⟩)) ok m = (match ks.findIdx? fun x => decide (x = k) with
   | some i => (match M.es[i]? with | some (_,v,_) => some (if ok then .tup [v,.sc (.bool true)] else v) | Option.none => Option.none)
   | Option.none => (tzero P et).map fun z => if ok then .tup [z,.sc (.bool false)] else z):=by
 unfold alookup amapOf
 simp only [h,hM,Option.map_some,Aq0 hk,hs,Ani hk]
 cases ks.findIdx? fun x => decide (x = k) <;> rfl
theorem Ai5 {t kt et:TypeId} (h:tmap P t = some (kt,et)) (hk:P.underlying kt = some .string) {m:Mem} {id:Nat} {M:AMap} (hM:m.map id = some M) {ks:List (List UInt8)} (hs:M.es.map (·.1) = ks.map fun x => .string ⟨⟨x⟩⟩) {k:List UInt8} (hn:(ks.findIdx? fun x => decide (x = k)) = none) (v:AV) :
  amapUpdate P t (.mp id) (.sc (.string ⟨⟨k⟩⟩)) v m = some (m.setMap id (M.es ++ [(.string ⟨⟨k⟩⟩,v,M.ck)]) (M.ck + 1)):=by
 unfold amapUpdate
 simp only [h,hM,Aq0 hk,hs,Ani hk,hn]
theorem A59 {T : TypeId} {f1 f2 : Field} (hT : P.underlying T = some (.struct #[f1, f2])) (n1 : f1.name ≠ "_") (n2 : f2.name ≠ "_") (o1 : f1.offset = 0) (o2 : f2.offset = 1) (s1 : tagg P f1.type = some false) (s2 : tagg P f2.type = some false)
  (hs:P.stoodInHeld T = false) {x1 x2 y1 y2:Value} {b1 b2:Bool} (h1:∀ d,pureRun P (Op.equalIn (d + 1) f1.type x1 y1) = some b1) (h2:∀ d,pureRun P (Op.equalIn (d + 1) f2.type x2 y2) = some b2) :
  pureRun P (Op.equal T (.agg #[x1,x2]) (.agg #[y1,y2])) = some (b1 && b2):=by
 unfold Op.equal
 rw [show Op.maxDepth = (Op.maxDepth - 2) + 1 + 1 from rfl]
 rw [Op.equalIn]
 rw [Aag,Aaj hT]
 simp only [Option.bind_some]
 have hp:∀ (t:TypeId) (cs:Array Value) (off:Nat) (v:Value),tagg P t = some false → cs[off]? = some v → pureRun P (part t cs off) = some v:=by
  intro t cs off v ht hc
  unfold tagg at ht
  cases hu:P.underlying t with
  | none => rw [hu] at ht; cases ht
  | some d =>
   unfold part isAgg
   rw [Aag,Aag,Aaj hu]
   rw [hu] at ht
   cases d <;> simp at ht <;> simp [Ab4,hc,Aag]
 have q1:=h1 (Op.maxDepth - 2)
 have q2:=h2 (Op.maxDepth - 2)
 rw [Aag,Abt]
 simp only [Option.bind_some,hs,Bool.false_eq_true,if_false]
 have c1:=hp f1.type #[x1,x2] 0 x1 s1 rfl
 have c2:=hp f1.type #[y1,y2] 0 y1 s1 rfl
 have c3:=hp f2.type #[x1,x2] 1 x2 s2 rfl
 have c4:=hp f2.type #[y1,y2] 1 y2 s2 rfl
 cases b1 <;> cases b2 <;> simp [Aag,Ab4,List.forIn_toArray,n1,n2,o1,o2,c1,c2,c3,c4,q1,q2]
theorem Aih {T:TypeId} {k q:IntKind} (hT:P.underlying T = some (.int k)) {a b:Int} (d:Nat):pureRun P (Op.equalIn (d + 1) T (.int q a) (.int q b)) = some (decide (a = b)):=by
 rw [Op.equalIn,Aag,Aaj hT]
 simp only [Option.bind_some]
 simp [Ab4]
 rw [Bool.eq_iff_iff]; simp
structure Two (P:Program) (T:TypeId) (t1 t2:TypeId):Prop where
 two : ∃ f1 f2 : Field, P.underlying T = some (.struct #[f1, f2]) ∧ f1.name ≠ "_" ∧ f2.name ≠ "_" ∧ f1.offset = 0 ∧ f2.offset = 1 ∧ f1.type = t1 ∧ f2.type = t2
 t1:tagg P t1 = some false
 t2:tagg P t2 = some false
 hs:P.stoodInHeld T = false
 hg:P.eqGuardType P.depth T = false
theorem A1g {T t1 t2:TypeId} (h:Two P T t1 t2) {xo yo:Operand} {x1 x2 y1 y2:Value} {b1 b2:Bool} (h1:∀ d,pureRun P (Op.equalIn (d + 1) t1 x1 y1) = some b1) (h2:∀ d,pureRun P (Op.equalIn (d + 1) t2 x2 y2) = some b2) :
  abin P .eql T xo yo (.agg [.sc x1,.sc x2]) (.agg [.sc y1,.sc y2]) = some (.sc (.bool (b1 && b2))) ∧ abin P .neq T xo yo (.agg [.sc x1,.sc x2]) (.agg [.sc y1,.sc y2]) = some (.sc (.bool !(b1 && b2))):=by
 obtain ⟨f1,f2,hT,n1,n2,o1,o2,e1,e2⟩:=h.two
 have h0:=A59 hT n1 n2 o1 o2 (by rw [e1]; exact h.t1) (by rw [e2]; exact h.t2) h.hs (x1:=x1) (x2:=x2) (y1:=y1) (y2:=y2) (by rw [e1]; exact h1) (by rw [e2]; exact h2)
 constructor
 ·simp [abin,plain,scals,scal,eqGuard,Aag,Abt,Ab4,h.hg,binOp,Aet,h0]
 ·simp [abin,plain,scals,scal,eqGuard,Aag,Abt,Ab4,h.hg,binOp,Aet,h0]
end Go.V
namespace Go.V
set_option maxRecDepth 4000
set_option maxRecDepth 4000
variable {P:Program} {cfg:Cfg}
theorem eh_fz {f:FuncId} {fn:Func} {c:Code} {args args0:List AV} {m0 m m':Mem} {r:AV} (hf:P.funcs[f]? = some fn) (hb:fn.body = some c) (hk:cfg.hook f = none) (hka:cfg.keepArgs f = false) (hz0:fzvs m0 args0 = (args,m)) (hz:fzvs m args = (args,m)) (h:EH P cfg (.func f) args m r m'):EH P cfg (.func f) args0 m0 r m':=by
 obtain ⟨n,hn⟩:=h.one
 have hlen:args.length = args0.length:=by rw [← Adk args0 m0,hz0]
 refine .of (n:=n) ?_
 cases n with
 | zero => cases hn
 | succ n =>
  simp only [afn,hk,abody,hf,hb,hka,Bool.false_eq_true,if_false,hz0,hz,hlen] at hn ⊢
  exact hn
theorem Ahi {f:FuncId} {fn:Func} {c:Code} {args args0:List AV} {m0 m:Mem} {K:AV → Mem → Prop} (hf:P.funcs[f]? = some fn) (hb:fn.body = some c) (hk:cfg.hook f = none) (hka:cfg.keepArgs f = false) (hz0:fzvs m0 args0 = (args,m)) (hz:fzvs m args = (args,m)) (h:wph P cfg (.func f) args m K):wph P cfg (.func f) args0 m0 K:=by
 obtain ⟨v,m',h1,h2⟩:=h
 exact ⟨v,m',eh_fz hf hb hk hka hz0 hz h1,h2⟩
theorem A3s {P:Program} {cfg:Cfg} {N:Nat} {Q:Ex → Sl → Mem → Prop} {t:Bool} {x y:Code} {k:List It} {s:Sl} {m:Mem} (A:Sl → Mem → Prop) (h1:t = true → ∀ k',(∀ s' m',A s' m' → go P cfg N Q k' s' m') → go P cfg N Q (.code x :: k') s m) (h2:t = false → ∀ k',(∀ s' m',A s' m' → go P cfg N Q k' s' m') → go P cfg N Q (.code y :: k') s m) (h3:∀ s' m',A s' m' → go P cfg N Q k s' m'):goB P cfg N Q (.sc (.bool t)) x y k s m:=by
 cases t
 ·exact h2 rfl k h3
 ·exact h1 rfl k h3
end Go.V
namespace Go.Proofs.YthegkphhfleghaaGreat
set_option maxRecDepth 4000
open Go.V
attribute [local simp] Nat.add_assoc
structure KpC (X:Nat → Prop) (m m':Mem):Prop where
 next:m.next ≤ m'.next
 get:∀ id,id < m.next → ¬ X id → m'.get id = m.get id
 x:∀ id,id < m.next → ¬ X id → m'.loop id = m.loop id ∧ m'.map id = m.map id
theorem KpC.refl (X:Nat → Prop) (m:Mem):KpC X m m:=⟨Nat.le_refl _,fun _ _ _ => rfl,fun _ _ _ => ⟨rfl,rfl⟩⟩
theorem KpC.trans {X:Nat → Prop} {a b c:Mem} (h:KpC X a b) (k:KpC X b c):KpC X a c:=⟨Nat.le_trans h.next k.next,fun id hi hx => (k.get id (Nat.lt_of_lt_of_le hi h.next) hx).trans (h.get id hi hx),fun id hi hx => ⟨(k.x id (Nat.lt_of_lt_of_le hi h.next) hx).1.trans (h.x id hi hx).1,(k.x id (Nat.lt_of_lt_of_le hi h.next) hx).2.trans (h.x id hi hx).2⟩⟩
theorem KpC.of {X:Nat → Prop} {a b:Mem} (h:KpX X a b):KpC X a b:=⟨h.next,h.get,fun id hi _ => h.x id hi⟩
theorem KpC.mono {X Y:Nat → Prop} {a b:Mem} (h:KpC X a b) (k:∀ j,X j → Y j):KpC Y a b:=⟨h.next,fun id hi hx => h.get id hi fun x => hx (k id x),fun id hi hx => h.x id hi fun x => hx (k id x)⟩
theorem has.kc {X:Nat → Prop} {m m':Mem} {id:Nat} {cs:List AV} (h:has m id cs) (k:KpC X m m') (hx:¬ X id):has m' id cs:=⟨Nat.lt_of_lt_of_le h.1 k.next,by rw [k.get id h.1 hx]; exact h.2⟩
theorem Agr {X:Nat → Prop} {m0 a b:Mem} (h:KpC X a b) (k:Kp m0 a) (hx:∀ j,X j → m0.next ≤ j):Kp m0 b :=
 ⟨Nat.le_trans k.next h.next,fun id hi => (h.get id (Nat.lt_of_lt_of_le hi k.next) (fun x => by have:=hx id x; omega)).trans (k.get id hi),fun id hi => have q:=h.x id (Nat.lt_of_lt_of_le hi k.next) (fun x => by have:=hx id x; omega); ⟨q.1.trans (k.x id hi).1,q.2.trans (k.x id hi).2⟩⟩
theorem KpC.cut {Y:Nat → Prop} {m m':Mem} (h:KpC (fun i => Y i ∨ m.next ≤ i) m m'):KpC Y m m':=⟨h.next,fun id hi hx => h.get id hi (fun q => q.elim hx fun q => by omega),fun id hi hx => h.x id hi (fun q => q.elim hx fun q => by omega)⟩
theorem Aal (B:Nat) (cs:List AV) (m:Mem):KpC (fun i => i = B) m (m.set B cs):=⟨by simp,fun id hi hx => by simp [show id ≠ B from hx],fun id hi hx => by simp⟩
theorem Afp {X:Nat → Prop} {m0 m m':Mem} {k:Nat} {ag:Bool} {ys:List AV} {v:AV} (h:Acc m0 m k ag ys v) (kx:KpC X m m') (hx:∀ j,owns v j → ¬ X j):Acc m0 m' k ag ys v:=by
 rcases h with h | ⟨h,id,w,rfl,h2,h3,h4⟩
 ·exact .inl h
 ·exact .inr ⟨h,id,w,rfl,h2,Nat.lt_of_lt_of_le h3 kx.next,by rw [kx.get id h3 (hx id rfl)]; exact h4⟩
theorem Awp {m0 m:Mem} {T:TypeId} {k:Nat} {ag:Bool} {ys zs:List AV} {v:AV} (h:Acc m0 m k ag ys v) (h0:m0.next ≤ m.next) (hy:okAll k ys = true) (el:ElemOf Tryz.prog T k ag) (ho:okAll k zs = true) (hf:fzx Tryz.prog T m zs = (zs,m)) (hb:ys.length + zs.length ≤ 2 ^ 26) :
  ∃ v' m3,aappend Tryz.prog T v none (some zs) m = some (v',m3) ∧ Acc m0 m3 k ag (ys ++ zs) v' ∧ KpC (owns v) m m3 ∧ (∀ j,owns v' j → owns v j ∨ m.next ≤ j):=by
 cases zs with
 | nil =>
  refine ⟨v,m,Awt el ?_,by simpa using h,.refl _ _,fun j h => .inl h⟩
  rcases h with ⟨_,rfl⟩ | ⟨_,id,w,rfl,_⟩
  ·exact .inl ⟨_,rfl⟩
  ·exact .inr ⟨_,_,_,_,_,_,rfl⟩
 | cons z zs =>
  obtain ⟨m3,a1,a2,⟨w,a3⟩,a4,a5⟩:=Afq h hy el (zs:=z :: zs) (zs':=z :: zs) (List.cons_ne_nil _ _) ho hf (.refl m) hb
  refine ⟨_,m3,a1,.inr ⟨by simp,m.next,w,by simp,h0,by omega,a3⟩,⟨by omega,fun j hj hx => a4 j hj hx,fun j hj hx => a5 j hj⟩,?_⟩
  rintro j rfl
  exact .inr (Nat.le_refl _)
theorem Acj {k:Nat}:∀ {ys:List AV} {j:Nat} {y:AV},okAll k ys = true → ys[j]? = some y → j * k + k ≤ (flat ys).length ∧ ((flat ys).drop (j * k)).take k = y.cells
 | [],j,y,_,h => by simp at h
 | a :: ys,0,y,ho,h => by
  rw [Aan] at ho
  simp at ho h
  subst h
  rw [Aa3]
  refine ⟨by simp; omega,?_⟩
  simp only [Nat.zero_mul,List.drop_zero]
  rw [List.take_append_of_le_length (by omega),List.take_of_length_le (by omega)]
 | a :: ys,j + 1,y,ho,h => by
  rw [Aan] at ho
  simp at ho h
  obtain ⟨h1,h2⟩:=Acj ho.2 h
  rw [Aa3]
  have e:(j + 1) * k = a.cells.length + j * k:=by rw [ho.1.2,Nat.succ_mul]; omega
  rw [e]
  refine ⟨by rw [List.length_append]; omega,?_⟩
  rw [List.drop_append,List.drop_eq_nil_of_le (by omega),List.nil_append,show a.cells.length + j * k - a.cells.length = j * k by omega,h2]
def Lv (m0 m:Mem) (k:Nat) (ag:Bool) (ys:List AV) (v:AV):Prop:=(∃ n,n ≤ 1 ∧ ys = [] ∧ v = .emp n) ∨ v = .lst ys ∨ ∃ id w c,v = .sl id 0 ys.length k ag c ∧ m0.next ≤ id ∧ id < m.next ∧ m.get id = some (.cells (flat ys) false w)
theorem Lv.keep {X:Nat → Prop} {m0 m m':Mem} {k:Nat} {ag:Bool} {ys:List AV} {v:AV} (h:Lv m0 m k ag ys v) (kc:KpC X m m') (hx:∀ j,owns v j → ¬ X j):Lv m0 m' k ag ys v:=by
 rcases h with h | h | ⟨id,w,c,rfl,h2,h3,h4⟩
 ·exact .inl h
 ·exact .inr (.inl h)
 ·exact .inr (.inr ⟨id,w,c,rfl,h2,Nat.lt_of_lt_of_le h3 kc.next,by rw [kc.get id h3 (hx id rfl)]; exact h4⟩)
theorem Lv.lt {m0 m:Mem} {k:Nat} {ag:Bool} {ys:List AV} {v:AV} (h:Lv m0 m k ag ys v):∀ j,owns v j → m0.next ≤ j ∧ j < m.next:=by
 rcases h with ⟨n,_,_,rfl⟩ | rfl | ⟨id,w,c,rfl,h2,h3,h4⟩
 ·intro j hj; exact hj.elim
 ·intro j hj; exact hj.elim
 ·rintro j rfl; exact ⟨h2,h3⟩
theorem Lv.back {m0 m m':Mem} {k:Nat} {ag:Bool} {ys:List AV} {v:AV} (h:Lv m m' k ag ys v) (hk:m0.next ≤ m.next):Lv m0 m' k ag ys v:=by
 rcases h with h | h | ⟨id,w,c,h1,h2,h3⟩
 ·exact .inl h
 ·exact .inr (.inl h)
 ·exact .inr (.inr ⟨id,w,c,h1,Nat.le_trans hk h2,h3⟩)
theorem Lv.okc {m0 m:Mem} {k:Nat} {ag:Bool} {ys:List AV} {v:AV} (h:Lv m0 m k ag ys v):v.okc = true ∧ v.cells = [v]:=by
 rcases h with ⟨n,_,_,rfl⟩ | rfl | ⟨id,w,c,rfl,_⟩ <;> exact ⟨rfl,rfl⟩
theorem Lv.fz {m0 m:Mem} {k:Nat} {ag:Bool} {ys:List AV} {v:AV} (h:Lv m0 m k ag ys v) (ha:(ag || k == 1) = true) (hy:∀ y ∈ ys,y.cells.length = k ∧ (if ag then AV.agg y.cells = y else y.cells = [y])) (ho:okAll k ys = true):∃ m2,fz1 m v = (.lst ys,m2) ∧ KpC (owns v) m m2:=by
 rcases h with ⟨n,hn,rfl,rfl⟩ | rfl | ⟨id,w,c,rfl,h2,h3,h4⟩
 ·have:n = 0 ∨ n = 1:=by omega
  rcases this with rfl | rfl <;> exact ⟨m,rfl,.refl _ _⟩
 ·exact ⟨m,rfl,.refl _ _⟩
 ·refine ⟨_,Aeu ha h4 hy ho,⟨Nat.le_of_eq (Mem.next_mark _ _ _ _).symm,fun j hj hn => by rw [Mem.get_mark,if_neg (fun e => hn e.symm)],fun j hj hn => by simp⟩⟩
theorem Lv.len {m0 m m':Mem} {k T e:Nat} {ag:Bool} {ys:List AV} {v:AV} {R:TypeId} (h:Lv m0 m k ag ys v) (hT:Tryz.prog.underlying T = some (.slice e)):abuiltin Tryz.prog .len #[T] R [v] m' = some (int ys.length,m'):=by
 rcases h with ⟨n,_,rfl,rfl⟩ | rfl | ⟨id,w,c,rfl,_⟩
 ·exact Ahf hT
 ·exact Aao hT
 ·exact Ae0 hT
end Go.Proofs.YthegkphhfleghaaGreat
