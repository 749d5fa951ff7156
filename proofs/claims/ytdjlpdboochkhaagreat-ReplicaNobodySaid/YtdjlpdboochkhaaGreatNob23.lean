/-
  Nob23: part of the proof.
-/
import Derived.Test.YtdjlpdboochkhaaGreatProg
import Derived.KernelRfl
import Derived.Test.YtdjlpdboochkhaaGreatS23a
import Derived.Test.YtdjlpdboochkhaaGreatAmOwn
set_option linter.unusedVariables false
set_option maxRecDepth 100000
namespace Go.AM.S23
open Go Go.AM
abbrev n_Preplica_Replica_On : FuncId := 9
abbrev n_Preplica_Replica_Digest : FuncId := 11
abbrev n_Preplica_Replica_View : FuncId := 12
abbrev n_Preplica_Replica_Commit : FuncId := 13
abbrev n_Preplica_Replica_Last : FuncId := 14
abbrev n_Preplica_Replica_State : FuncId := 15
abbrev n_Preplica_Replica_Store : FuncId := 17
abbrev n_Preplica_Replica_Done : FuncId := 18
abbrev n_Preplica_Replica_Spoil : FuncId := 21
abbrev n_Preplica_Replica_At : FuncId := 22
abbrev n_Preplica_Replica_Did : FuncId := 23
abbrev n_Preplica_Replica_Tick : FuncId := 24
abbrev n_pianolaref19_Same : FuncId := 25
abbrev n_replica_within : FuncId := 27
abbrev n_msg_May : FuncId := 33
abbrev n_Preplica_Replica_request : FuncId := 34
abbrev n_Preplica_Replica_told : FuncId := 35
abbrev n_Preplica_Replica_prepare : FuncId := 36
abbrev n_Preplica_Replica_leads : FuncId := 37
abbrev n_Preplica_Replica_count : FuncId := 38
abbrev n_Preplica_Replica_committed : FuncId := 39
abbrev n_Preplica_Replica_compare : FuncId := 40
abbrev n_Preplica_Replica_start : FuncId := 41
abbrev n_Preplica_Replica_begun : FuncId := 42
abbrev n_Preplica_Replica_get : FuncId := 43
abbrev n_Preplica_Replica_behind : FuncId := 44
abbrev n_Preplica_Replica_recover : FuncId := 45
abbrev n_Preplica_Replica_recovered : FuncId := 46
abbrev t_A32_u8 : TypeId := 22
abbrev t_api_Request : TypeId := 26
abbrev t_api_Msg : TypeId := 33
abbrev t_P_replica_Replica : TypeId := 34
abbrev t_api_Seat : TypeId := 39
abbrev t_S_api_Out : TypeId := 42
abbrev t_P_store_Store : TypeId := 49
abbrev t_M_i64_i64 : TypeId := 63
abbrev t_P_oplog_Log_api_Request : TypeId := 66
abbrev t_replica_Replica : TypeId := 69
/-! pianola/pianolalaw23.ReplicaNobody -/
namespace pianolalaw23_ReplicaNobody
abbrev fid : FuncId := n_pianolalaw23_ReplicaNobody
noncomputable abbrev bd : Code := bodyOf PP fid
def T13 (a85 a89 : AV) (H : Heap) (Q : HK) : Prop :=
  OS2 (xPick a85 a89 (.bool false) H) fun a90 H =>
  Q a90 H
theorem L13 (Q : HK) (f : FrF) (H : Heap) : runI PP XX [.ops (rO (sL (sR (sR (sR (sR (sR bd))))))) (((rO (sL (sR (sR (sR (sR (sR bd))))))).drop 63).take 2), .code (sR (sR (sR (sR (sR (sR bd))))))] (endS PP (resOf PP fid) Q) nk (endS PP (resOf PP fid) Q) f H = T13 (f 85) (f 89) H Q := by kernel_rfl
def T12 (a7 a80 a83 : AV) (H : Heap) (Q : HK) : Prop :=
  OS2 (xPick a80 a83 (.bool false) H) fun a84 H =>
  guardS true a84
    (WF PP XX (.func n_Preplica_Replica_Digest [] []) [a7] H fun a87 H =>
    OS2 (xBuild PP t_A32_u8 [] H) fun a88 H =>
    OS2 (xBin PP .eql t_A32_u8 a87 a88 H) fun a89 H =>
    T13 a84 a89 H Q)
    (T13 a84 undefA H Q)
theorem L12 (Q : HK) (f : FrF) (H : Heap) : runI PP XX [.ops (rO (sL (sR (sR (sR (sR (sR bd))))))) (((rO (sL (sR (sR (sR (sR (sR bd))))))).drop 57).take 8), .code (sR (sR (sR (sR (sR (sR bd))))))] (endS PP (resOf PP fid) Q) nk (endS PP (resOf PP fid) Q) f H = T12 (f 7) (f 80) (f 83) H Q :=
  Eq.trans (b := (fun R : PK => runI PP XX [.ops (rO (sL (sR (sR (sR (sR (sR bd))))))) (((rO (sL (sR (sR (sR (sR (sR bd))))))).drop 57).take 2), .ops (rO (sL (sR (sR (sR (sR (sR bd))))))) (((rO (sL (sR (sR (sR (sR (sR bd))))))).drop 59).take 4)] R nk (endS PP (resOf PP fid) Q) f H) (runI PP XX [.ops (rO (sL (sR (sR (sR (sR (sR bd))))))) (((rO (sL (sR (sR (sR (sR (sR bd))))))).drop 63).take 2), .code (sR (sR (sR (sR (sR (sR bd))))))] (endS PP (resOf PP fid) Q) nk (endS PP (resOf PP fid) Q))) (by kernel_rfl) (Eq.trans (congrArg (fun R : PK => runI PP XX [.ops (rO (sL (sR (sR (sR (sR (sR bd))))))) (((rO (sL (sR (sR (sR (sR (sR bd))))))).drop 57).take 2), .ops (rO (sL (sR (sR (sR (sR (sR bd))))))) (((rO (sL (sR (sR (sR (sR (sR bd))))))).drop 59).take 4)] R nk (endS PP (resOf PP fid) Q) f H) (funext fun f => funext fun H => L13 Q f H : (runI PP XX [.ops (rO (sL (sR (sR (sR (sR (sR bd))))))) (((rO (sL (sR (sR (sR (sR (sR bd))))))).drop 63).take 2), .code (sR (sR (sR (sR (sR (sR bd))))))] (endS PP (resOf PP fid) Q) nk (endS PP (resOf PP fid) Q)) = (fun f H => T13 (f 85) (f 89) H Q))) (by kernel_rfl))
def T11 (a7 a75 a78 : AV) (H : Heap) (Q : HK) : Prop :=
  OS2 (xPick a75 a78 (.bool false) H) fun a79 H =>
  guardS true a79
    (WF PP XX (.func n_Preplica_Replica_Store [] []) [a7] H fun a82 H =>
    OS2 (xBin PP .eql t_P_store_Store a82 .nilp H) fun a83 H =>
    T12 a7 a79 a83 H Q)
    (T12 a7 a79 undefA H Q)
theorem L11 (Q : HK) (f : FrF) (H : Heap) : runI PP XX [.ops (rO (sL (sR (sR (sR (sR (sR bd))))))) (((rO (sL (sR (sR (sR (sR (sR bd))))))).drop 52).take 13), .code (sR (sR (sR (sR (sR (sR bd))))))] (endS PP (resOf PP fid) Q) nk (endS PP (resOf PP fid) Q) f H = T11 (f 7) (f 75) (f 78) H Q :=
  Eq.trans (b := (fun R : PK => runI PP XX [.ops (rO (sL (sR (sR (sR (sR (sR bd))))))) (((rO (sL (sR (sR (sR (sR (sR bd))))))).drop 52).take 2), .ops (rO (sL (sR (sR (sR (sR (sR bd))))))) (((rO (sL (sR (sR (sR (sR (sR bd))))))).drop 54).take 3)] R nk (endS PP (resOf PP fid) Q) f H) (runI PP XX [.ops (rO (sL (sR (sR (sR (sR (sR bd))))))) (((rO (sL (sR (sR (sR (sR (sR bd))))))).drop 57).take 8), .code (sR (sR (sR (sR (sR (sR bd))))))] (endS PP (resOf PP fid) Q) nk (endS PP (resOf PP fid) Q))) (by kernel_rfl) (Eq.trans (congrArg (fun R : PK => runI PP XX [.ops (rO (sL (sR (sR (sR (sR (sR bd))))))) (((rO (sL (sR (sR (sR (sR (sR bd))))))).drop 52).take 2), .ops (rO (sL (sR (sR (sR (sR (sR bd))))))) (((rO (sL (sR (sR (sR (sR (sR bd))))))).drop 54).take 3)] R nk (endS PP (resOf PP fid) Q) f H) (funext fun f => funext fun H => L12 Q f H : (runI PP XX [.ops (rO (sL (sR (sR (sR (sR (sR bd))))))) (((rO (sL (sR (sR (sR (sR (sR bd))))))).drop 57).take 8), .code (sR (sR (sR (sR (sR (sR bd))))))] (endS PP (resOf PP fid) Q) nk (endS PP (resOf PP fid) Q)) = (fun f H => T12 (f 7) (f 80) (f 83) H Q))) (by kernel_rfl))
def T10 (a7 a8 a10 a71 a73 : AV) (H : Heap) (Q : HK) : Prop :=
  OS2 (xPick a71 a73 (.bool false) H) fun a74 H =>
  guardS true a74
    (OS2 (xLoad PP t_api_Request a8 H) fun a76 H =>
    OS2 (xLoad PP t_api_Request a10 H) fun a77 H =>
    WF PP XX (.func n_pianolaref19_Same [] []) [a76, a77] H fun a78 H =>
    T11 a7 a74 a78 H Q)
    (T11 a7 a74 undefA H Q)
theorem L10 (Q : HK) (f : FrF) (H : Heap) : runI PP XX [.ops (rO (sL (sR (sR (sR (sR (sR bd))))))) (((rO (sL (sR (sR (sR (sR (sR bd))))))).drop 47).take 18), .code (sR (sR (sR (sR (sR (sR bd))))))] (endS PP (resOf PP fid) Q) nk (endS PP (resOf PP fid) Q) f H = T10 (f 7) (f 8) (f 10) (f 71) (f 73) H Q :=
  Eq.trans (b := (fun R : PK => runI PP XX [.ops (rO (sL (sR (sR (sR (sR (sR bd))))))) (((rO (sL (sR (sR (sR (sR (sR bd))))))).drop 47).take 2), .ops (rO (sL (sR (sR (sR (sR (sR bd))))))) (((rO (sL (sR (sR (sR (sR (sR bd))))))).drop 49).take 3)] R nk (endS PP (resOf PP fid) Q) f H) (runI PP XX [.ops (rO (sL (sR (sR (sR (sR (sR bd))))))) (((rO (sL (sR (sR (sR (sR (sR bd))))))).drop 52).take 13), .code (sR (sR (sR (sR (sR (sR bd))))))] (endS PP (resOf PP fid) Q) nk (endS PP (resOf PP fid) Q))) (by kernel_rfl) (Eq.trans (congrArg (fun R : PK => runI PP XX [.ops (rO (sL (sR (sR (sR (sR (sR bd))))))) (((rO (sL (sR (sR (sR (sR (sR bd))))))).drop 47).take 2), .ops (rO (sL (sR (sR (sR (sR (sR bd))))))) (((rO (sL (sR (sR (sR (sR (sR bd))))))).drop 49).take 3)] R nk (endS PP (resOf PP fid) Q) f H) (funext fun f => funext fun H => L11 Q f H : (runI PP XX [.ops (rO (sL (sR (sR (sR (sR (sR bd))))))) (((rO (sL (sR (sR (sR (sR (sR bd))))))).drop 52).take 13), .code (sR (sR (sR (sR (sR (sR bd))))))] (endS PP (resOf PP fid) Q) nk (endS PP (resOf PP fid) Q)) = (fun f H => T11 (f 7) (f 75) (f 78) H Q))) (by kernel_rfl))
def T9 (a7 a8 a10 a11 a67 a69 : AV) (H : Heap) (Q : HK) : Prop :=
  OS2 (xPick a67 a69 (.bool false) H) fun a70 H =>
  guardS true a70
    (OS2 (xUn .not a11 H) fun a73 H =>
    T10 a7 a8 a10 a70 a73 H Q)
    (T10 a7 a8 a10 a70 undefA H Q)
theorem L9 (Q : HK) (f : FrF) (H : Heap) : runI PP XX [.ops (rO (sL (sR (sR (sR (sR (sR bd))))))) (((rO (sL (sR (sR (sR (sR (sR bd))))))).drop 43).take 22), .code (sR (sR (sR (sR (sR (sR bd))))))] (endS PP (resOf PP fid) Q) nk (endS PP (resOf PP fid) Q) f H = T9 (f 7) (f 8) (f 10) (f 11) (f 67) (f 69) H Q :=
  Eq.trans (b := (fun R : PK => runI PP XX [.ops (rO (sL (sR (sR (sR (sR (sR bd))))))) (((rO (sL (sR (sR (sR (sR (sR bd))))))).drop 43).take 2), .ops (rO (sL (sR (sR (sR (sR (sR bd))))))) (((rO (sL (sR (sR (sR (sR (sR bd))))))).drop 45).take 2)] R nk (endS PP (resOf PP fid) Q) f H) (runI PP XX [.ops (rO (sL (sR (sR (sR (sR (sR bd))))))) (((rO (sL (sR (sR (sR (sR (sR bd))))))).drop 47).take 18), .code (sR (sR (sR (sR (sR (sR bd))))))] (endS PP (resOf PP fid) Q) nk (endS PP (resOf PP fid) Q))) (by kernel_rfl) (Eq.trans (congrArg (fun R : PK => runI PP XX [.ops (rO (sL (sR (sR (sR (sR (sR bd))))))) (((rO (sL (sR (sR (sR (sR (sR bd))))))).drop 43).take 2), .ops (rO (sL (sR (sR (sR (sR (sR bd))))))) (((rO (sL (sR (sR (sR (sR (sR bd))))))).drop 45).take 2)] R nk (endS PP (resOf PP fid) Q) f H) (funext fun f => funext fun H => L10 Q f H : (runI PP XX [.ops (rO (sL (sR (sR (sR (sR (sR bd))))))) (((rO (sL (sR (sR (sR (sR (sR bd))))))).drop 47).take 18), .code (sR (sR (sR (sR (sR (sR bd))))))] (endS PP (resOf PP fid) Q) nk (endS PP (resOf PP fid) Q)) = (fun f H => T10 (f 7) (f 8) (f 10) (f 71) (f 73) H Q))) (by kernel_rfl))
def T8 (a7 a8 a9 a10 a11 a62 a65 : AV) (H : Heap) (Q : HK) : Prop :=
  OS2 (xPick a62 a65 (.bool false) H) fun a66 H =>
  guardS true a66
    (OS2 (xUn .not a9 H) fun a69 H =>
    T9 a7 a8 a10 a11 a66 a69 H Q)
    (T9 a7 a8 a10 a11 a66 undefA H Q)
theorem L8 (Q : HK) (f : FrF) (H : Heap) : runI PP XX [.ops (rO (sL (sR (sR (sR (sR (sR bd))))))) (((rO (sL (sR (sR (sR (sR (sR bd))))))).drop 39).take 26), .code (sR (sR (sR (sR (sR (sR bd))))))] (endS PP (resOf PP fid) Q) nk (endS PP (resOf PP fid) Q) f H = T8 (f 7) (f 8) (f 9) (f 10) (f 11) (f 62) (f 65) H Q :=
  Eq.trans (b := (fun R : PK => runI PP XX [.ops (rO (sL (sR (sR (sR (sR (sR bd))))))) (((rO (sL (sR (sR (sR (sR (sR bd))))))).drop 39).take 2), .ops (rO (sL (sR (sR (sR (sR (sR bd))))))) (((rO (sL (sR (sR (sR (sR (sR bd))))))).drop 41).take 2)] R nk (endS PP (resOf PP fid) Q) f H) (runI PP XX [.ops (rO (sL (sR (sR (sR (sR (sR bd))))))) (((rO (sL (sR (sR (sR (sR (sR bd))))))).drop 43).take 22), .code (sR (sR (sR (sR (sR (sR bd))))))] (endS PP (resOf PP fid) Q) nk (endS PP (resOf PP fid) Q))) (by kernel_rfl) (Eq.trans (congrArg (fun R : PK => runI PP XX [.ops (rO (sL (sR (sR (sR (sR (sR bd))))))) (((rO (sL (sR (sR (sR (sR (sR bd))))))).drop 39).take 2), .ops (rO (sL (sR (sR (sR (sR (sR bd))))))) (((rO (sL (sR (sR (sR (sR (sR bd))))))).drop 41).take 2)] R nk (endS PP (resOf PP fid) Q) f H) (funext fun f => funext fun H => L9 Q f H : (runI PP XX [.ops (rO (sL (sR (sR (sR (sR (sR bd))))))) (((rO (sL (sR (sR (sR (sR (sR bd))))))).drop 43).take 22), .code (sR (sR (sR (sR (sR (sR bd))))))] (endS PP (resOf PP fid) Q) nk (endS PP (resOf PP fid) Q)) = (fun f H => T9 (f 7) (f 8) (f 10) (f 11) (f 67) (f 69) H Q))) (by kernel_rfl))
def T7 (a7 a8 a9 a10 a11 a57 a60 : AV) (H : Heap) (Q : HK) : Prop :=
  OS2 (xPick a57 a60 (.bool false) H) fun a61 H =>
  guardS true a61
    (WF PP XX (.func n_Preplica_Replica_Last [] []) [a7] H fun a64 H =>
    OS2 (xBin PP .eql t_i64 a64 (.int .i64 0) H) fun a65 H =>
    T8 a7 a8 a9 a10 a11 a61 a65 H Q)
    (T8 a7 a8 a9 a10 a11 a61 undefA H Q)
theorem L7 (Q : HK) (f : FrF) (H : Heap) : runI PP XX [.ops (rO (sL (sR (sR (sR (sR (sR bd))))))) (((rO (sL (sR (sR (sR (sR (sR bd))))))).drop 34).take 31), .code (sR (sR (sR (sR (sR (sR bd))))))] (endS PP (resOf PP fid) Q) nk (endS PP (resOf PP fid) Q) f H = T7 (f 7) (f 8) (f 9) (f 10) (f 11) (f 57) (f 60) H Q :=
  Eq.trans (b := (fun R : PK => runI PP XX [.ops (rO (sL (sR (sR (sR (sR (sR bd))))))) (((rO (sL (sR (sR (sR (sR (sR bd))))))).drop 34).take 2), .ops (rO (sL (sR (sR (sR (sR (sR bd))))))) (((rO (sL (sR (sR (sR (sR (sR bd))))))).drop 36).take 3)] R nk (endS PP (resOf PP fid) Q) f H) (runI PP XX [.ops (rO (sL (sR (sR (sR (sR (sR bd))))))) (((rO (sL (sR (sR (sR (sR (sR bd))))))).drop 39).take 26), .code (sR (sR (sR (sR (sR (sR bd))))))] (endS PP (resOf PP fid) Q) nk (endS PP (resOf PP fid) Q))) (by kernel_rfl) (Eq.trans (congrArg (fun R : PK => runI PP XX [.ops (rO (sL (sR (sR (sR (sR (sR bd))))))) (((rO (sL (sR (sR (sR (sR (sR bd))))))).drop 34).take 2), .ops (rO (sL (sR (sR (sR (sR (sR bd))))))) (((rO (sL (sR (sR (sR (sR (sR bd))))))).drop 36).take 3)] R nk (endS PP (resOf PP fid) Q) f H) (funext fun f => funext fun H => L8 Q f H : (runI PP XX [.ops (rO (sL (sR (sR (sR (sR (sR bd))))))) (((rO (sL (sR (sR (sR (sR (sR bd))))))).drop 39).take 26), .code (sR (sR (sR (sR (sR (sR bd))))))] (endS PP (resOf PP fid) Q) nk (endS PP (resOf PP fid) Q)) = (fun f H => T8 (f 7) (f 8) (f 9) (f 10) (f 11) (f 62) (f 65) H Q))) (by kernel_rfl))
def T6 (a7 a8 a9 a10 a11 a52 a55 : AV) (H : Heap) (Q : HK) : Prop :=
  OS2 (xPick a52 a55 (.bool false) H) fun a56 H =>
  guardS true a56
    (WF PP XX (.func n_Preplica_Replica_Done [] []) [a7] H fun a59 H =>
    OS2 (xBin PP .eql t_i64 a59 (.int .i64 0) H) fun a60 H =>
    T7 a7 a8 a9 a10 a11 a56 a60 H Q)
    (T7 a7 a8 a9 a10 a11 a56 undefA H Q)
theorem L6 (Q : HK) (f : FrF) (H : Heap) : runI PP XX [.ops (rO (sL (sR (sR (sR (sR (sR bd))))))) (((rO (sL (sR (sR (sR (sR (sR bd))))))).drop 29).take 36), .code (sR (sR (sR (sR (sR (sR bd))))))] (endS PP (resOf PP fid) Q) nk (endS PP (resOf PP fid) Q) f H = T6 (f 7) (f 8) (f 9) (f 10) (f 11) (f 52) (f 55) H Q :=
  Eq.trans (b := (fun R : PK => runI PP XX [.ops (rO (sL (sR (sR (sR (sR (sR bd))))))) (((rO (sL (sR (sR (sR (sR (sR bd))))))).drop 29).take 2), .ops (rO (sL (sR (sR (sR (sR (sR bd))))))) (((rO (sL (sR (sR (sR (sR (sR bd))))))).drop 31).take 3)] R nk (endS PP (resOf PP fid) Q) f H) (runI PP XX [.ops (rO (sL (sR (sR (sR (sR (sR bd))))))) (((rO (sL (sR (sR (sR (sR (sR bd))))))).drop 34).take 31), .code (sR (sR (sR (sR (sR (sR bd))))))] (endS PP (resOf PP fid) Q) nk (endS PP (resOf PP fid) Q))) (by kernel_rfl) (Eq.trans (congrArg (fun R : PK => runI PP XX [.ops (rO (sL (sR (sR (sR (sR (sR bd))))))) (((rO (sL (sR (sR (sR (sR (sR bd))))))).drop 29).take 2), .ops (rO (sL (sR (sR (sR (sR (sR bd))))))) (((rO (sL (sR (sR (sR (sR (sR bd))))))).drop 31).take 3)] R nk (endS PP (resOf PP fid) Q) f H) (funext fun f => funext fun H => L7 Q f H : (runI PP XX [.ops (rO (sL (sR (sR (sR (sR (sR bd))))))) (((rO (sL (sR (sR (sR (sR (sR bd))))))).drop 34).take 31), .code (sR (sR (sR (sR (sR (sR bd))))))] (endS PP (resOf PP fid) Q) nk (endS PP (resOf PP fid) Q)) = (fun f H => T7 (f 7) (f 8) (f 9) (f 10) (f 11) (f 57) (f 60) H Q))) (by kernel_rfl))
def T5 (a7 a8 a9 a10 a11 a47 a50 : AV) (H : Heap) (Q : HK) : Prop :=
  OS2 (xPick a47 a50 (.bool false) H) fun a51 H =>
  guardS true a51
    (WF PP XX (.func n_Preplica_Replica_Commit [] []) [a7] H fun a54 H =>
    OS2 (xBin PP .eql t_i64 a54 (.int .i64 0) H) fun a55 H =>
    T6 a7 a8 a9 a10 a11 a51 a55 H Q)
    (T6 a7 a8 a9 a10 a11 a51 undefA H Q)
theorem L5 (Q : HK) (f : FrF) (H : Heap) : runI PP XX [.ops (rO (sL (sR (sR (sR (sR (sR bd))))))) (((rO (sL (sR (sR (sR (sR (sR bd))))))).drop 24).take 41), .code (sR (sR (sR (sR (sR (sR bd))))))] (endS PP (resOf PP fid) Q) nk (endS PP (resOf PP fid) Q) f H = T5 (f 7) (f 8) (f 9) (f 10) (f 11) (f 47) (f 50) H Q :=
  Eq.trans (b := (fun R : PK => runI PP XX [.ops (rO (sL (sR (sR (sR (sR (sR bd))))))) (((rO (sL (sR (sR (sR (sR (sR bd))))))).drop 24).take 2), .ops (rO (sL (sR (sR (sR (sR (sR bd))))))) (((rO (sL (sR (sR (sR (sR (sR bd))))))).drop 26).take 3)] R nk (endS PP (resOf PP fid) Q) f H) (runI PP XX [.ops (rO (sL (sR (sR (sR (sR (sR bd))))))) (((rO (sL (sR (sR (sR (sR (sR bd))))))).drop 29).take 36), .code (sR (sR (sR (sR (sR (sR bd))))))] (endS PP (resOf PP fid) Q) nk (endS PP (resOf PP fid) Q))) (by kernel_rfl) (Eq.trans (congrArg (fun R : PK => runI PP XX [.ops (rO (sL (sR (sR (sR (sR (sR bd))))))) (((rO (sL (sR (sR (sR (sR (sR bd))))))).drop 24).take 2), .ops (rO (sL (sR (sR (sR (sR (sR bd))))))) (((rO (sL (sR (sR (sR (sR (sR bd))))))).drop 26).take 3)] R nk (endS PP (resOf PP fid) Q) f H) (funext fun f => funext fun H => L6 Q f H : (runI PP XX [.ops (rO (sL (sR (sR (sR (sR (sR bd))))))) (((rO (sL (sR (sR (sR (sR (sR bd))))))).drop 29).take 36), .code (sR (sR (sR (sR (sR (sR bd))))))] (endS PP (resOf PP fid) Q) nk (endS PP (resOf PP fid) Q)) = (fun f H => T6 (f 7) (f 8) (f 9) (f 10) (f 11) (f 52) (f 55) H Q))) (by kernel_rfl))
def T4 (a7 a8 a9 a10 a11 a42 a45 : AV) (H : Heap) (Q : HK) : Prop :=
  OS2 (xPick a42 a45 (.bool false) H) fun a46 H =>
  guardS true a46
    (WF PP XX (.func n_Preplica_Replica_View [] []) [a7] H fun a49 H =>
    OS2 (xBin PP .eql t_i64 a49 (.int .i64 0) H) fun a50 H =>
    T5 a7 a8 a9 a10 a11 a46 a50 H Q)
    (T5 a7 a8 a9 a10 a11 a46 undefA H Q)
theorem L4 (Q : HK) (f : FrF) (H : Heap) : runI PP XX [.ops (rO (sL (sR (sR (sR (sR (sR bd))))))) (((rO (sL (sR (sR (sR (sR (sR bd))))))).drop 19).take 46), .code (sR (sR (sR (sR (sR (sR bd))))))] (endS PP (resOf PP fid) Q) nk (endS PP (resOf PP fid) Q) f H = T4 (f 7) (f 8) (f 9) (f 10) (f 11) (f 42) (f 45) H Q :=
  Eq.trans (b := (fun R : PK => runI PP XX [.ops (rO (sL (sR (sR (sR (sR (sR bd))))))) (((rO (sL (sR (sR (sR (sR (sR bd))))))).drop 19).take 2), .ops (rO (sL (sR (sR (sR (sR (sR bd))))))) (((rO (sL (sR (sR (sR (sR (sR bd))))))).drop 21).take 3)] R nk (endS PP (resOf PP fid) Q) f H) (runI PP XX [.ops (rO (sL (sR (sR (sR (sR (sR bd))))))) (((rO (sL (sR (sR (sR (sR (sR bd))))))).drop 24).take 41), .code (sR (sR (sR (sR (sR (sR bd))))))] (endS PP (resOf PP fid) Q) nk (endS PP (resOf PP fid) Q))) (by kernel_rfl) (Eq.trans (congrArg (fun R : PK => runI PP XX [.ops (rO (sL (sR (sR (sR (sR (sR bd))))))) (((rO (sL (sR (sR (sR (sR (sR bd))))))).drop 19).take 2), .ops (rO (sL (sR (sR (sR (sR (sR bd))))))) (((rO (sL (sR (sR (sR (sR (sR bd))))))).drop 21).take 3)] R nk (endS PP (resOf PP fid) Q) f H) (funext fun f => funext fun H => L5 Q f H : (runI PP XX [.ops (rO (sL (sR (sR (sR (sR (sR bd))))))) (((rO (sL (sR (sR (sR (sR (sR bd))))))).drop 24).take 41), .code (sR (sR (sR (sR (sR (sR bd))))))] (endS PP (resOf PP fid) Q) nk (endS PP (resOf PP fid) Q)) = (fun f H => T5 (f 7) (f 8) (f 9) (f 10) (f 11) (f 47) (f 50) H Q))) (by kernel_rfl))
def T3 (a7 a8 a9 a10 a11 a36 a40 : AV) (H : Heap) (Q : HK) : Prop :=
  OS2 (xPick a36 a40 (.bool false) H) fun a41 H =>
  guardS true a41
    (WF PP XX (.func n_Preplica_Replica_State [] []) [a7] H fun a44 H =>
    OS2 (xBin PP .eql t_i64 a44 (.int .i64 0) H) fun a45 H =>
    T4 a7 a8 a9 a10 a11 a41 a45 H Q)
    (T4 a7 a8 a9 a10 a11 a41 undefA H Q)
theorem L3 (Q : HK) (f : FrF) (H : Heap) : runI PP XX [.ops (rO (sL (sR (sR (sR (sR (sR bd))))))) (((rO (sL (sR (sR (sR (sR (sR bd))))))).drop 14).take 51), .code (sR (sR (sR (sR (sR (sR bd))))))] (endS PP (resOf PP fid) Q) nk (endS PP (resOf PP fid) Q) f H = T3 (f 7) (f 8) (f 9) (f 10) (f 11) (f 36) (f 40) H Q :=
  Eq.trans (b := (fun R : PK => runI PP XX [.ops (rO (sL (sR (sR (sR (sR (sR bd))))))) (((rO (sL (sR (sR (sR (sR (sR bd))))))).drop 14).take 2), .ops (rO (sL (sR (sR (sR (sR (sR bd))))))) (((rO (sL (sR (sR (sR (sR (sR bd))))))).drop 16).take 3)] R nk (endS PP (resOf PP fid) Q) f H) (runI PP XX [.ops (rO (sL (sR (sR (sR (sR (sR bd))))))) (((rO (sL (sR (sR (sR (sR (sR bd))))))).drop 19).take 46), .code (sR (sR (sR (sR (sR (sR bd))))))] (endS PP (resOf PP fid) Q) nk (endS PP (resOf PP fid) Q))) (by kernel_rfl) (Eq.trans (congrArg (fun R : PK => runI PP XX [.ops (rO (sL (sR (sR (sR (sR (sR bd))))))) (((rO (sL (sR (sR (sR (sR (sR bd))))))).drop 14).take 2), .ops (rO (sL (sR (sR (sR (sR (sR bd))))))) (((rO (sL (sR (sR (sR (sR (sR bd))))))).drop 16).take 3)] R nk (endS PP (resOf PP fid) Q) f H) (funext fun f => funext fun H => L4 Q f H : (runI PP XX [.ops (rO (sL (sR (sR (sR (sR (sR bd))))))) (((rO (sL (sR (sR (sR (sR (sR bd))))))).drop 19).take 46), .code (sR (sR (sR (sR (sR (sR bd))))))] (endS PP (resOf PP fid) Q) nk (endS PP (resOf PP fid) Q)) = (fun f H => T4 (f 7) (f 8) (f 9) (f 10) (f 11) (f 42) (f 45) H Q))) (by kernel_rfl))
def T2 (a7 a8 a9 a10 a11 a28 a34 : AV) (H : Heap) (Q : HK) : Prop :=
  OS2 (xPick a28 a34 (.bool false) H) fun a35 H =>
  guardS true a35
    (WF PP XX (.func n_Preplica_Replica_Tick [] []) [a7] H fun a38 H =>
    OS2 (xLen PP t_S_api_Out a38 H) fun a39 H =>
    OS2 (xBin PP .eql t_i64 a39 (.int .i64 0) H) fun a40 H =>
    T3 a7 a8 a9 a10 a11 a35 a40 H Q)
    (T3 a7 a8 a9 a10 a11 a35 undefA H Q)
theorem L2 (Q : HK) (f : FrF) (H : Heap) : runI PP XX [.ops (rO (sL (sR (sR (sR (sR (sR bd))))))) (((rO (sL (sR (sR (sR (sR (sR bd))))))).drop 8).take 57), .code (sR (sR (sR (sR (sR (sR bd))))))] (endS PP (resOf PP fid) Q) nk (endS PP (resOf PP fid) Q) f H = T2 (f 7) (f 8) (f 9) (f 10) (f 11) (f 28) (f 34) H Q :=
  Eq.trans (b := (fun R : PK => runI PP XX [.ops (rO (sL (sR (sR (sR (sR (sR bd))))))) (((rO (sL (sR (sR (sR (sR (sR bd))))))).drop 8).take 2), .ops (rO (sL (sR (sR (sR (sR (sR bd))))))) (((rO (sL (sR (sR (sR (sR (sR bd))))))).drop 10).take 4)] R nk (endS PP (resOf PP fid) Q) f H) (runI PP XX [.ops (rO (sL (sR (sR (sR (sR (sR bd))))))) (((rO (sL (sR (sR (sR (sR (sR bd))))))).drop 14).take 51), .code (sR (sR (sR (sR (sR (sR bd))))))] (endS PP (resOf PP fid) Q) nk (endS PP (resOf PP fid) Q))) (by kernel_rfl) (Eq.trans (congrArg (fun R : PK => runI PP XX [.ops (rO (sL (sR (sR (sR (sR (sR bd))))))) (((rO (sL (sR (sR (sR (sR (sR bd))))))).drop 8).take 2), .ops (rO (sL (sR (sR (sR (sR (sR bd))))))) (((rO (sL (sR (sR (sR (sR (sR bd))))))).drop 10).take 4)] R nk (endS PP (resOf PP fid) Q) f H) (funext fun f => funext fun H => L3 Q f H : (runI PP XX [.ops (rO (sL (sR (sR (sR (sR (sR bd))))))) (((rO (sL (sR (sR (sR (sR (sR bd))))))).drop 14).take 51), .code (sR (sR (sR (sR (sR (sR bd))))))] (endS PP (resOf PP fid) Q) nk (endS PP (resOf PP fid) Q)) = (fun f H => T3 (f 7) (f 8) (f 9) (f 10) (f 11) (f 36) (f 40) H Q))) (by kernel_rfl))
def T1 (a0 a1 a2 : AV) (H : Heap) (Q : HK) : Prop :=
  OS2 (xBox a1 H) fun a4 H =>
  WF PP XX (.func n_Preplica_Replica_Spoil [] []) [.nilp, a2] H fun a14 H =>
  WF PP XX (.func n_Preplica_Replica_At [] []) [.nilp, a2] H fun a18 H =>
  OS2 (xExtract a18 0 H) fun a19 H =>
  OS2 (xExtract a18 1 H) fun a20 H =>
  OS2 (xAlloc PP t_api_Request H) fun a8 H =>
  OS2 (xStore PP t_api_Request a8 a19 H) fun _ H =>
  WF PP XX (.func n_Preplica_Replica_Did [] []) [.nilp, a2] H fun a24 H =>
  OS2 (xExtract a24 0 H) fun a25 H =>
  OS2 (xExtract a24 1 H) fun a26 H =>
  OS2 (xAlloc PP t_api_Request H) fun a10 H =>
  OS2 (xStore PP t_api_Request a10 a25 H) fun _ H =>
  WF PP XX (.func n_pianolalaw23_lives [] []) [] H fun a27 H =>
  guardS true a27
    (OS2 (xLoad PP t_api_Msg a4 H) fun a31 H =>
    WF PP XX (.func n_Preplica_Replica_On [] []) [.nilp, a0, a31] H fun a32 H =>
    OS2 (xLen PP t_S_api_Out a32 H) fun a33 H =>
    OS2 (xBin PP .eql t_i64 a33 (.int .i64 0) H) fun a34 H =>
    T2 .nilp a8 a20 a10 a26 a27 a34 H Q)
    (T2 .nilp a8 a20 a10 a26 a27 undefA H Q)
theorem L1 (Q : HK) (f : FrF) (H : Heap) : runI PP XX [.code bd] (endS PP (resOf PP fid) Q) nk (endS PP (resOf PP fid) Q) f H = T1 (f 0) (f 1) (f 2) H Q :=
  Eq.trans (b := (fun R : PK => runI PP XX [.ops (rO (sL bd)) (((rO (sL bd)).drop 0).take 2), .ops (rO (sL (sR bd))) (((rO (sL (sR bd))).drop 0).take 1), .ops (rO (sL (sR (sR bd)))) (((rO (sL (sR (sR bd)))).drop 0).take 3), .ops (rO (sL (sR (sR (sR bd))))) (((rO (sL (sR (sR (sR bd))))).drop 0).take 9), .ops (rO (sL (sR (sR (sR (sR bd)))))) (((rO (sL (sR (sR (sR (sR bd)))))).drop 0).take 9), .ops (rO (sL (sR (sR (sR (sR (sR bd))))))) (((rO (sL (sR (sR (sR (sR (sR bd))))))).drop 0).take 2), .ops (rO (sL (sR (sR (sR (sR (sR bd))))))) (((rO (sL (sR (sR (sR (sR (sR bd))))))).drop 2).take 6)] R nk (endS PP (resOf PP fid) Q) f H) (runI PP XX [.ops (rO (sL (sR (sR (sR (sR (sR bd))))))) (((rO (sL (sR (sR (sR (sR (sR bd))))))).drop 8).take 57), .code (sR (sR (sR (sR (sR (sR bd))))))] (endS PP (resOf PP fid) Q) nk (endS PP (resOf PP fid) Q))) (by kernel_rfl) (Eq.trans (congrArg (fun R : PK => runI PP XX [.ops (rO (sL bd)) (((rO (sL bd)).drop 0).take 2), .ops (rO (sL (sR bd))) (((rO (sL (sR bd))).drop 0).take 1), .ops (rO (sL (sR (sR bd)))) (((rO (sL (sR (sR bd)))).drop 0).take 3), .ops (rO (sL (sR (sR (sR bd))))) (((rO (sL (sR (sR (sR bd))))).drop 0).take 9), .ops (rO (sL (sR (sR (sR (sR bd)))))) (((rO (sL (sR (sR (sR (sR bd)))))).drop 0).take 9), .ops (rO (sL (sR (sR (sR (sR (sR bd))))))) (((rO (sL (sR (sR (sR (sR (sR bd))))))).drop 0).take 2), .ops (rO (sL (sR (sR (sR (sR (sR bd))))))) (((rO (sL (sR (sR (sR (sR (sR bd))))))).drop 2).take 6)] R nk (endS PP (resOf PP fid) Q) f H) (funext fun f => funext fun H => L2 Q f H : (runI PP XX [.ops (rO (sL (sR (sR (sR (sR (sR bd))))))) (((rO (sL (sR (sR (sR (sR (sR bd))))))).drop 8).take 57), .code (sR (sR (sR (sR (sR (sR bd))))))] (endS PP (resOf PP fid) Q) nk (endS PP (resOf PP fid) Q)) = (fun f H => T2 (f 7) (f 8) (f 9) (f 10) (f 11) (f 28) (f 34) H Q))) (by kernel_rfl))
/-- What pianolalaw23_ReplicaNobody does. -/
def go (a0 a1 a2 : AV) (H : Heap) (Q : HK) : Prop := T1 a0 a1 a2 H Q
theorem okf : okF PP fid = true := by kernel_rfl
theorem ev (a0 a1 a2 : AV) (H : Heap) (Q : HK) : evP PP XX bd (endS PP (resOf PP fid) Q) nk (endS PP (resOf PP fid) Q) (frF [a0, a1, a2]) H = go a0 a1 a2 H Q :=
  Eq.trans (b := runI PP XX [.code bd] (endS PP (resOf PP fid) Q) nk (endS PP (resOf PP fid) Q) (frF [a0, a1, a2]) H) (by kernel_rfl) (Eq.trans (L1 Q (frF [a0, a1, a2]) H) (by kernel_rfl))
theorem wf (a0 a1 a2 : AV) (H : Heap) (Q : HK) (h : go a0 a1 a2 H Q) {first cap args : List AV} (e : first ++ args ++ cap = [a0, a1, a2]) : WF PP XX (.func fid first cap) args H Q :=
  WF_fn (by kernel_rfl) okf (by rw [e]; kernel_rfl) (by rw [e, ev]; exact h)
end pianolalaw23_ReplicaNobody
/-! (*pianola/replica.Replica).On -/
namespace Preplica_Replica_On
abbrev fid : FuncId := n_Preplica_Replica_On
noncomputable abbrev bd : Code := bodyOf PP fid
def T13 (a0 : AV) (H : Heap) (Q : HK) : Prop :=
  WF PP XX (.func n_Preplica_Replica_told [] []) [a0] H fun a162 H =>
  Q a162 H
theorem L13 (Q : HK) (f : FrF) (H : Heap) : runI PP XX [.ops (rO (sL (sR (sR (sR (sR (sR bd))))))) (((rO (sL (sR (sR (sR (sR (sR bd))))))).drop 0).take 3), .code (sR (sR (sR (sR (sR (sR bd))))))] (endS PP (resOf PP fid) Q) nk (endS PP (resOf PP fid) Q) f H = T13 (f 0) H Q := by kernel_rfl
def T16 (a0 a1 a5 : AV) (H : Heap) (Q : HK) : Prop :=
  OS2 (xLoad PP t_api_Msg a5 H) fun a73 H =>
  WF PP XX (.func n_Preplica_Replica_prepare [] []) [a0, a1, a73] H fun a74 H =>
  T13 a0 H Q
theorem L16 (Q : HK) (f : FrF) (H : Heap) : runI PP XX [.code (cT (sR (bB (sR (sL (sR (sR (sR (sR bd)))))))))] (fun f H => T13 (f 0) H Q) (xk 0 (fun f H => T13 (f 0) H Q) nk) (endS PP (resOf PP fid) Q) f H = T16 (f 0) (f 1) (f 5) H Q := by kernel_rfl
def T21 (a0 a1 a5 a91 a93 : AV) (H : Heap) (Q : HK) : Prop :=
  OS2 (xPick a91 a93 (.bool false) H) fun a94 H =>
  boolS a94
    (OS2 (xNil a0 H) fun a96 H =>
    OS2 (xFieldAddr PP t_replica_Replica 13 a96 H) fun a97 H =>
    OS2 (xLoad PP t_M_i64_i64 a97 H) fun a98 H =>
    OS2 (xNil a0 H) fun a101 H =>
    OS2 (xFieldAddr PP t_replica_Replica 13 a101 H) fun a102 H =>
    OS2 (xLoad PP t_M_i64_i64 a102 H) fun a103 H =>
    OS2 (xLookup PP t_M_i64_i64 a103 a1 false H) fun a105 H =>
    OS2 (xFieldAddr PP t_api_Msg 2 a5 H) fun a106 H =>
    OS2 (xLoad PP t_i64 a106 H) fun a107 H =>
    OS2 (xMax [a105, a107] H) fun a108 H =>
    OS2 (xPut PP t_M_i64_i64 a98 a1 a108 H) fun _ H =>
    WF PP XX (.func n_Preplica_Replica_count [] []) [a0] H fun a110 H =>
    T13 a0 H Q)
    (T13 a0 H Q)
theorem L21 (Q : HK) (f : FrF) (H : Heap) : runI PP XX [.ops (rO (sL (cT (sR (cE (sR (bB (sR (sL (sR (sR (sR (sR bd))))))))))))) (((rO (sL (cT (sR (cE (sR (bB (sR (sL (sR (sR (sR (sR bd))))))))))))).drop 17).take 1), .code (sR (cT (sR (cE (sR (bB (sR (sL (sR (sR (sR (sR bd))))))))))))] (fun f H => T13 (f 0) H Q) (xk 0 (fun f H => T13 (f 0) H Q) nk) (endS PP (resOf PP fid) Q) f H = T21 (f 0) (f 1) (f 5) (f 91) (f 93) H Q := by kernel_rfl
def T20 (a0 a1 a5 a82 a89 : AV) (H : Heap) (Q : HK) : Prop :=
  OS2 (xPick a82 a89 (.bool false) H) fun a90 H =>
  guardS true a90
    (WF PP XX (.func n_Preplica_Replica_leads [] []) [a0] H fun a93 H =>
    T21 a0 a1 a5 a90 a93 H Q)
    (T21 a0 a1 a5 a90 undefA H Q)
theorem L20 (Q : HK) (f : FrF) (H : Heap) : runI PP XX [.ops (rO (sL (cT (sR (cE (sR (bB (sR (sL (sR (sR (sR (sR bd))))))))))))) (((rO (sL (cT (sR (cE (sR (bB (sR (sL (sR (sR (sR (sR bd))))))))))))).drop 13).take 5), .code (sR (cT (sR (cE (sR (bB (sR (sL (sR (sR (sR (sR bd))))))))))))] (fun f H => T13 (f 0) H Q) (xk 0 (fun f H => T13 (f 0) H Q) nk) (endS PP (resOf PP fid) Q) f H = T20 (f 0) (f 1) (f 5) (f 82) (f 89) H Q :=
  Eq.trans (b := (fun R : PK => runI PP XX [.ops (rO (sL (cT (sR (cE (sR (bB (sR (sL (sR (sR (sR (sR bd))))))))))))) (((rO (sL (cT (sR (cE (sR (bB (sR (sL (sR (sR (sR (sR bd))))))))))))).drop 13).take 2), .ops (rO (sL (cT (sR (cE (sR (bB (sR (sL (sR (sR (sR (sR bd))))))))))))) (((rO (sL (cT (sR (cE (sR (bB (sR (sL (sR (sR (sR (sR bd))))))))))))).drop 15).take 2)] R (xk 0 (fun f H => T13 (f 0) H Q) nk) (endS PP (resOf PP fid) Q) f H) (runI PP XX [.ops (rO (sL (cT (sR (cE (sR (bB (sR (sL (sR (sR (sR (sR bd))))))))))))) (((rO (sL (cT (sR (cE (sR (bB (sR (sL (sR (sR (sR (sR bd))))))))))))).drop 17).take 1), .code (sR (cT (sR (cE (sR (bB (sR (sL (sR (sR (sR (sR bd))))))))))))] (fun f H => T13 (f 0) H Q) (xk 0 (fun f H => T13 (f 0) H Q) nk) (endS PP (resOf PP fid) Q))) (by kernel_rfl) (Eq.trans (congrArg (fun R : PK => runI PP XX [.ops (rO (sL (cT (sR (cE (sR (bB (sR (sL (sR (sR (sR (sR bd))))))))))))) (((rO (sL (cT (sR (cE (sR (bB (sR (sL (sR (sR (sR (sR bd))))))))))))).drop 13).take 2), .ops (rO (sL (cT (sR (cE (sR (bB (sR (sL (sR (sR (sR (sR bd))))))))))))) (((rO (sL (cT (sR (cE (sR (bB (sR (sL (sR (sR (sR (sR bd))))))))))))).drop 15).take 2)] R (xk 0 (fun f H => T13 (f 0) H Q) nk) (endS PP (resOf PP fid) Q) f H) (funext fun f => funext fun H => L21 Q f H : (runI PP XX [.ops (rO (sL (cT (sR (cE (sR (bB (sR (sL (sR (sR (sR (sR bd))))))))))))) (((rO (sL (cT (sR (cE (sR (bB (sR (sL (sR (sR (sR (sR bd))))))))))))).drop 17).take 1), .code (sR (cT (sR (cE (sR (bB (sR (sL (sR (sR (sR (sR bd))))))))))))] (fun f H => T13 (f 0) H Q) (xk 0 (fun f H => T13 (f 0) H Q) nk) (endS PP (resOf PP fid) Q)) = (fun f H => T21 (f 0) (f 1) (f 5) (f 91) (f 93) H Q))) (by kernel_rfl))
def T19 (a0 a1 a5 : AV) (H : Heap) (Q : HK) : Prop :=
  OS2 (xNil a0 H) fun a78 H =>
  OS2 (xFieldAddr PP t_replica_Replica 2 a78 H) fun a79 H =>
  OS2 (xLoad PP t_i64 a79 H) fun a80 H =>
  OS2 (xBin PP .eql t_i64 a80 (.int .i64 1) H) fun a81 H =>
  guardS true a81
    (OS2 (xFieldAddr PP t_api_Msg 1 a5 H) fun a83 H =>
    OS2 (xLoad PP t_i64 a83 H) fun a84 H =>
    OS2 (xNil a0 H) fun a86 H =>
    OS2 (xFieldAddr PP t_replica_Replica 3 a86 H) fun a87 H =>
    OS2 (xLoad PP t_i64 a87 H) fun a88 H =>
    OS2 (xBin PP .eql t_i64 a84 a88 H) fun a89 H =>
    T20 a0 a1 a5 a81 a89 H Q)
    (T20 a0 a1 a5 a81 undefA H Q)
theorem L19 (Q : HK) (f : FrF) (H : Heap) : runI PP XX [.code (cT (sR (cE (sR (bB (sR (sL (sR (sR (sR (sR bd)))))))))))] (fun f H => T13 (f 0) H Q) (xk 0 (fun f H => T13 (f 0) H Q) nk) (endS PP (resOf PP fid) Q) f H = T19 (f 0) (f 1) (f 5) H Q :=
  Eq.trans (b := (fun R : PK => runI PP XX [.ops (rO (sL (cT (sR (cE (sR (bB (sR (sL (sR (sR (sR (sR bd))))))))))))) (((rO (sL (cT (sR (cE (sR (bB (sR (sL (sR (sR (sR (sR bd))))))))))))).drop 0).take 6), .ops (rO (sL (cT (sR (cE (sR (bB (sR (sL (sR (sR (sR (sR bd))))))))))))) (((rO (sL (cT (sR (cE (sR (bB (sR (sL (sR (sR (sR (sR bd))))))))))))).drop 6).take 7)] R (xk 0 (fun f H => T13 (f 0) H Q) nk) (endS PP (resOf PP fid) Q) f H) (runI PP XX [.ops (rO (sL (cT (sR (cE (sR (bB (sR (sL (sR (sR (sR (sR bd))))))))))))) (((rO (sL (cT (sR (cE (sR (bB (sR (sL (sR (sR (sR (sR bd))))))))))))).drop 13).take 5), .code (sR (cT (sR (cE (sR (bB (sR (sL (sR (sR (sR (sR bd))))))))))))] (fun f H => T13 (f 0) H Q) (xk 0 (fun f H => T13 (f 0) H Q) nk) (endS PP (resOf PP fid) Q))) (by kernel_rfl) (Eq.trans (congrArg (fun R : PK => runI PP XX [.ops (rO (sL (cT (sR (cE (sR (bB (sR (sL (sR (sR (sR (sR bd))))))))))))) (((rO (sL (cT (sR (cE (sR (bB (sR (sL (sR (sR (sR (sR bd))))))))))))).drop 0).take 6), .ops (rO (sL (cT (sR (cE (sR (bB (sR (sL (sR (sR (sR (sR bd))))))))))))) (((rO (sL (cT (sR (cE (sR (bB (sR (sL (sR (sR (sR (sR bd))))))))))))).drop 6).take 7)] R (xk 0 (fun f H => T13 (f 0) H Q) nk) (endS PP (resOf PP fid) Q) f H) (funext fun f => funext fun H => L20 Q f H : (runI PP XX [.ops (rO (sL (cT (sR (cE (sR (bB (sR (sL (sR (sR (sR (sR bd))))))))))))) (((rO (sL (cT (sR (cE (sR (bB (sR (sL (sR (sR (sR (sR bd))))))))))))).drop 13).take 5), .code (sR (cT (sR (cE (sR (bB (sR (sL (sR (sR (sR (sR bd))))))))))))] (fun f H => T13 (f 0) H Q) (xk 0 (fun f H => T13 (f 0) H Q) nk) (endS PP (resOf PP fid) Q)) = (fun f H => T20 (f 0) (f 1) (f 5) (f 82) (f 89) H Q))) (by kernel_rfl))
def T24 (a0 a1 a5 : AV) (H : Heap) (Q : HK) : Prop :=
  OS2 (xLoad PP t_api_Msg a5 H) fun a115 H =>
  WF PP XX (.func n_Preplica_Replica_committed [] []) [a0, a1, a115] H fun a116 H =>
  T13 a0 H Q
theorem L24 (Q : HK) (f : FrF) (H : Heap) : runI PP XX [.code (cT (sR (cE (sR (cE (sR (bB (sR (sL (sR (sR (sR (sR bd)))))))))))))] (fun f H => T13 (f 0) H Q) (xk 0 (fun f H => T13 (f 0) H Q) nk) (endS PP (resOf PP fid) Q) f H = T24 (f 0) (f 1) (f 5) H Q := by kernel_rfl
def T27 (a0 a5 : AV) (H : Heap) (Q : HK) : Prop :=
  OS2 (xFieldAddr PP t_api_Msg 2 a5 H) fun a120 H =>
  OS2 (xLoad PP t_i64 a120 H) fun a121 H =>
  OS2 (xFieldAddr PP t_api_Msg 7 a5 H) fun a122 H =>
  OS2 (xLoad PP t_A32_u8 a122 H) fun a123 H =>
  WF PP XX (.func n_Preplica_Replica_compare [] []) [a0, a121, a123] H fun a124 H =>
  T13 a0 H Q
theorem L27 (Q : HK) (f : FrF) (H : Heap) : runI PP XX [.code (cT (sR (cE (sR (cE (sR (cE (sR (bB (sR (sL (sR (sR (sR (sR bd)))))))))))))))] (fun f H => T13 (f 0) H Q) (xk 0 (fun f H => T13 (f 0) H Q) nk) (endS PP (resOf PP fid) Q) f H = T27 (f 0) (f 5) H Q := by kernel_rfl
def T29 (a0 a1 a5 a68 a125 : AV) (H : Heap) (Q : HK) : Prop :=
  boolS a125
    (OS2 (xLoad PP t_api_Msg a5 H) fun a130 H =>
    WF PP XX (.func n_Preplica_Replica_start [] []) [a0, a1, a130] H fun a131 H =>
    T13 a0 H Q)
    (OS2 (xBin PP .eql t_i64 a68 (.int .i64 9) H) fun a133 H =>
    boolS a133
      (OS2 (xLoad PP t_api_Msg a5 H) fun a136 H =>
      WF PP XX (.func n_Preplica_Replica_begun [] []) [a0, a1, a136] H fun a137 H =>
      T13 a0 H Q)
      (OS2 (xBin PP .eql t_i64 a68 (.int .i64 10) H) fun a139 H =>
      boolS a139
        (OS2 (xLoad PP t_api_Msg a5 H) fun a142 H =>
        WF PP XX (.func n_Preplica_Replica_get [] []) [a0, a1, a142] H fun a143 H =>
        T13 a0 H Q)
        (OS2 (xBin PP .eql t_i64 a68 (.int .i64 11) H) fun a145 H =>
        boolS a145
          (OS2 (xLoad PP t_api_Msg a5 H) fun a147 H =>
          WF PP XX (.func n_Preplica_Replica_behind [] []) [a0, a147] H fun a148 H =>
          T13 a0 H Q)
          (OS2 (xBin PP .eql t_i64 a68 (.int .i64 12) H) fun a150 H =>
          boolS a150
            (OS2 (xLoad PP t_api_Msg a5 H) fun a153 H =>
            WF PP XX (.func n_Preplica_Replica_recover [] []) [a0, a1, a153] H fun a154 H =>
            T13 a0 H Q)
            (OS2 (xBin PP .eql t_i64 a68 (.int .i64 13) H) fun a156 H =>
            boolS a156
              (OS2 (xLoad PP t_api_Msg a5 H) fun a159 H =>
              WF PP XX (.func n_Preplica_Replica_recovered [] []) [a0, a1, a159] H fun a160 H =>
              T13 a0 H Q)
              (T13 a0 H Q))))))
theorem L29 (Q : HK) (f : FrF) (H : Heap) : runI PP XX [.code (sR (cE (sR (cE (sR (cE (sR (cE (sR (bB (sR (sL (sR (sR (sR (sR bd))))))))))))))))] (fun f H => T13 (f 0) H Q) (xk 0 (fun f H => T13 (f 0) H Q) nk) (endS PP (resOf PP fid) Q) f H = T29 (f 0) (f 1) (f 5) (f 68) (f 125) H Q := by kernel_rfl
def T28 (a0 a1 a5 a68 : AV) (H : Heap) (Q : HK) : Prop :=
  OS2 (xBin PP .eql t_i64 a68 (.int .i64 7) H) fun a126 H =>
  boolS a126
    (T29 a0 a1 a5 a68 a126 H Q)
    (OS2 (xBin PP .eql t_i64 a68 (.int .i64 8) H) fun a127 H =>
    T29 a0 a1 a5 a68 a127 H Q)
theorem L28 (Q : HK) (f : FrF) (H : Heap) : runI PP XX [.code (cE (sR (cE (sR (cE (sR (cE (sR (bB (sR (sL (sR (sR (sR (sR bd)))))))))))))))] (fun f H => T13 (f 0) H Q) (xk 0 (fun f H => T13 (f 0) H Q) nk) (endS PP (resOf PP fid) Q) f H = T28 (f 0) (f 1) (f 5) (f 68) H Q :=
  Eq.trans (b := (fun R : PK => runI PP XX [.ops (rO (sL (sL (cE (sR (cE (sR (cE (sR (cE (sR (bB (sR (sL (sR (sR (sR (sR bd)))))))))))))))))) (((rO (sL (sL (cE (sR (cE (sR (cE (sR (cE (sR (bB (sR (sL (sR (sR (sR (sR bd)))))))))))))))))).drop 0).take 2), .code (sR (sL (cE (sR (cE (sR (cE (sR (cE (sR (bB (sR (sL (sR (sR (sR (sR bd)))))))))))))))))] R (xk 0 (fun f H => T13 (f 0) H Q) nk) (endS PP (resOf PP fid) Q) f H) (runI PP XX [.code (sR (cE (sR (cE (sR (cE (sR (cE (sR (bB (sR (sL (sR (sR (sR (sR bd))))))))))))))))] (fun f H => T13 (f 0) H Q) (xk 0 (fun f H => T13 (f 0) H Q) nk) (endS PP (resOf PP fid) Q))) (by kernel_rfl) (Eq.trans (congrArg (fun R : PK => runI PP XX [.ops (rO (sL (sL (cE (sR (cE (sR (cE (sR (cE (sR (bB (sR (sL (sR (sR (sR (sR bd)))))))))))))))))) (((rO (sL (sL (cE (sR (cE (sR (cE (sR (cE (sR (bB (sR (sL (sR (sR (sR (sR bd)))))))))))))))))).drop 0).take 2), .code (sR (sL (cE (sR (cE (sR (cE (sR (cE (sR (bB (sR (sL (sR (sR (sR (sR bd)))))))))))))))))] R (xk 0 (fun f H => T13 (f 0) H Q) nk) (endS PP (resOf PP fid) Q) f H) (funext fun f => funext fun H => L29 Q f H : (runI PP XX [.code (sR (cE (sR (cE (sR (cE (sR (cE (sR (bB (sR (sL (sR (sR (sR (sR bd))))))))))))))))] (fun f H => T13 (f 0) H Q) (xk 0 (fun f H => T13 (f 0) H Q) nk) (endS PP (resOf PP fid) Q)) = (fun f H => T29 (f 0) (f 1) (f 5) (f 68) (f 125) H Q))) (by kernel_rfl))
def T26 (a0 a1 a5 a68 a117 : AV) (H : Heap) (Q : HK) : Prop :=
  boolS a117 (T27 a0 a5 H Q) (T28 a0 a1 a5 a68 H Q)
theorem L26 (Q : HK) (f : FrF) (H : Heap) : runI PP XX [.code (sR (cE (sR (cE (sR (cE (sR (bB (sR (sL (sR (sR (sR (sR bd))))))))))))))] (fun f H => T13 (f 0) H Q) (xk 0 (fun f H => T13 (f 0) H Q) nk) (endS PP (resOf PP fid) Q) f H = T26 (f 0) (f 1) (f 5) (f 68) (f 117) H Q :=
  (id (Eq.trans (b := boolS (f 117) (runI PP XX [.code (cT (sR (cE (sR (cE (sR (cE (sR (bB (sR (sL (sR (sR (sR (sR bd)))))))))))))))] (fun f H => T13 (f 0) H Q) (xk 0 (fun f H => T13 (f 0) H Q) nk) (endS PP (resOf PP fid) Q) f H) (runI PP XX [.code (cE (sR (cE (sR (cE (sR (cE (sR (bB (sR (sL (sR (sR (sR (sR bd)))))))))))))))] (fun f H => T13 (f 0) H Q) (xk 0 (fun f H => T13 (f 0) H Q) nk) (endS PP (resOf PP fid) Q) f H)) (by kernel_rfl) (boolS_congr _ (L27 Q f H) (L28 Q f H))))
def T25 (a0 a1 a5 a68 : AV) (H : Heap) (Q : HK) : Prop :=
  OS2 (xBin PP .eql t_i64 a68 (.int .i64 6) H) fun a118 H =>
  T26 a0 a1 a5 a68 a118 H Q
theorem L25 (Q : HK) (f : FrF) (H : Heap) : runI PP XX [.code (cE (sR (cE (sR (cE (sR (bB (sR (sL (sR (sR (sR (sR bd)))))))))))))] (fun f H => T13 (f 0) H Q) (xk 0 (fun f H => T13 (f 0) H Q) nk) (endS PP (resOf PP fid) Q) f H = T25 (f 0) (f 1) (f 5) (f 68) H Q :=
  Eq.trans (b := (fun R : PK => runI PP XX [.ops (rO (sL (cE (sR (cE (sR (cE (sR (bB (sR (sL (sR (sR (sR (sR bd))))))))))))))) (((rO (sL (cE (sR (cE (sR (cE (sR (bB (sR (sL (sR (sR (sR (sR bd))))))))))))))).drop 0).take 2)] R (xk 0 (fun f H => T13 (f 0) H Q) nk) (endS PP (resOf PP fid) Q) f H) (runI PP XX [.code (sR (cE (sR (cE (sR (cE (sR (bB (sR (sL (sR (sR (sR (sR bd))))))))))))))] (fun f H => T13 (f 0) H Q) (xk 0 (fun f H => T13 (f 0) H Q) nk) (endS PP (resOf PP fid) Q))) (by kernel_rfl) (Eq.trans (congrArg (fun R : PK => runI PP XX [.ops (rO (sL (cE (sR (cE (sR (cE (sR (bB (sR (sL (sR (sR (sR (sR bd))))))))))))))) (((rO (sL (cE (sR (cE (sR (cE (sR (bB (sR (sL (sR (sR (sR (sR bd))))))))))))))).drop 0).take 2)] R (xk 0 (fun f H => T13 (f 0) H Q) nk) (endS PP (resOf PP fid) Q) f H) (funext fun f => funext fun H => L26 Q f H : (runI PP XX [.code (sR (cE (sR (cE (sR (cE (sR (bB (sR (sL (sR (sR (sR (sR bd))))))))))))))] (fun f H => T13 (f 0) H Q) (xk 0 (fun f H => T13 (f 0) H Q) nk) (endS PP (resOf PP fid) Q)) = (fun f H => T26 (f 0) (f 1) (f 5) (f 68) (f 117) H Q))) (by kernel_rfl))
def T23 (a0 a1 a5 a68 a111 : AV) (H : Heap) (Q : HK) : Prop :=
  boolS a111 (T24 a0 a1 a5 H Q) (T25 a0 a1 a5 a68 H Q)
theorem L23 (Q : HK) (f : FrF) (H : Heap) : runI PP XX [.code (sR (cE (sR (cE (sR (bB (sR (sL (sR (sR (sR (sR bd))))))))))))] (fun f H => T13 (f 0) H Q) (xk 0 (fun f H => T13 (f 0) H Q) nk) (endS PP (resOf PP fid) Q) f H = T23 (f 0) (f 1) (f 5) (f 68) (f 111) H Q :=
  (id (Eq.trans (b := boolS (f 111) (runI PP XX [.code (cT (sR (cE (sR (cE (sR (bB (sR (sL (sR (sR (sR (sR bd)))))))))))))] (fun f H => T13 (f 0) H Q) (xk 0 (fun f H => T13 (f 0) H Q) nk) (endS PP (resOf PP fid) Q) f H) (runI PP XX [.code (cE (sR (cE (sR (cE (sR (bB (sR (sL (sR (sR (sR (sR bd)))))))))))))] (fun f H => T13 (f 0) H Q) (xk 0 (fun f H => T13 (f 0) H Q) nk) (endS PP (resOf PP fid) Q) f H)) (by kernel_rfl) (boolS_congr _ (L24 Q f H) (L25 Q f H))))
def T22 (a0 a1 a5 a68 : AV) (H : Heap) (Q : HK) : Prop :=
  OS2 (xBin PP .eql t_i64 a68 (.int .i64 5) H) fun a112 H =>
  T23 a0 a1 a5 a68 a112 H Q
theorem L22 (Q : HK) (f : FrF) (H : Heap) : runI PP XX [.code (cE (sR (cE (sR (bB (sR (sL (sR (sR (sR (sR bd)))))))))))] (fun f H => T13 (f 0) H Q) (xk 0 (fun f H => T13 (f 0) H Q) nk) (endS PP (resOf PP fid) Q) f H = T22 (f 0) (f 1) (f 5) (f 68) H Q :=
  Eq.trans (b := (fun R : PK => runI PP XX [.ops (rO (sL (cE (sR (cE (sR (bB (sR (sL (sR (sR (sR (sR bd))))))))))))) (((rO (sL (cE (sR (cE (sR (bB (sR (sL (sR (sR (sR (sR bd))))))))))))).drop 0).take 2)] R (xk 0 (fun f H => T13 (f 0) H Q) nk) (endS PP (resOf PP fid) Q) f H) (runI PP XX [.code (sR (cE (sR (cE (sR (bB (sR (sL (sR (sR (sR (sR bd))))))))))))] (fun f H => T13 (f 0) H Q) (xk 0 (fun f H => T13 (f 0) H Q) nk) (endS PP (resOf PP fid) Q))) (by kernel_rfl) (Eq.trans (congrArg (fun R : PK => runI PP XX [.ops (rO (sL (cE (sR (cE (sR (bB (sR (sL (sR (sR (sR (sR bd))))))))))))) (((rO (sL (cE (sR (cE (sR (bB (sR (sL (sR (sR (sR (sR bd))))))))))))).drop 0).take 2)] R (xk 0 (fun f H => T13 (f 0) H Q) nk) (endS PP (resOf PP fid) Q) f H) (funext fun f => funext fun H => L23 Q f H : (runI PP XX [.code (sR (cE (sR (cE (sR (bB (sR (sL (sR (sR (sR (sR bd))))))))))))] (fun f H => T13 (f 0) H Q) (xk 0 (fun f H => T13 (f 0) H Q) nk) (endS PP (resOf PP fid) Q)) = (fun f H => T23 (f 0) (f 1) (f 5) (f 68) (f 111) H Q))) (by kernel_rfl))
def T18 (a0 a1 a5 a68 a75 : AV) (H : Heap) (Q : HK) : Prop :=
  boolS a75 (T19 a0 a1 a5 H Q) (T22 a0 a1 a5 a68 H Q)
theorem L18 (Q : HK) (f : FrF) (H : Heap) : runI PP XX [.code (sR (cE (sR (bB (sR (sL (sR (sR (sR (sR bd))))))))))] (fun f H => T13 (f 0) H Q) (xk 0 (fun f H => T13 (f 0) H Q) nk) (endS PP (resOf PP fid) Q) f H = T18 (f 0) (f 1) (f 5) (f 68) (f 75) H Q :=
  (id (Eq.trans (b := boolS (f 75) (runI PP XX [.code (cT (sR (cE (sR (bB (sR (sL (sR (sR (sR (sR bd)))))))))))] (fun f H => T13 (f 0) H Q) (xk 0 (fun f H => T13 (f 0) H Q) nk) (endS PP (resOf PP fid) Q) f H) (runI PP XX [.code (cE (sR (cE (sR (bB (sR (sL (sR (sR (sR (sR bd)))))))))))] (fun f H => T13 (f 0) H Q) (xk 0 (fun f H => T13 (f 0) H Q) nk) (endS PP (resOf PP fid) Q) f H)) (by kernel_rfl) (boolS_congr _ (L19 Q f H) (L22 Q f H))))
def T17 (a0 a1 a5 a68 : AV) (H : Heap) (Q : HK) : Prop :=
  OS2 (xBin PP .eql t_i64 a68 (.int .i64 4) H) fun a76 H =>
  T18 a0 a1 a5 a68 a76 H Q
theorem L17 (Q : HK) (f : FrF) (H : Heap) : runI PP XX [.code (cE (sR (bB (sR (sL (sR (sR (sR (sR bd)))))))))] (fun f H => T13 (f 0) H Q) (xk 0 (fun f H => T13 (f 0) H Q) nk) (endS PP (resOf PP fid) Q) f H = T17 (f 0) (f 1) (f 5) (f 68) H Q :=
  Eq.trans (b := (fun R : PK => runI PP XX [.ops (rO (sL (cE (sR (bB (sR (sL (sR (sR (sR (sR bd))))))))))) (((rO (sL (cE (sR (bB (sR (sL (sR (sR (sR (sR bd))))))))))).drop 0).take 2)] R (xk 0 (fun f H => T13 (f 0) H Q) nk) (endS PP (resOf PP fid) Q) f H) (runI PP XX [.code (sR (cE (sR (bB (sR (sL (sR (sR (sR (sR bd))))))))))] (fun f H => T13 (f 0) H Q) (xk 0 (fun f H => T13 (f 0) H Q) nk) (endS PP (resOf PP fid) Q))) (by kernel_rfl) (Eq.trans (congrArg (fun R : PK => runI PP XX [.ops (rO (sL (cE (sR (bB (sR (sL (sR (sR (sR (sR bd))))))))))) (((rO (sL (cE (sR (bB (sR (sL (sR (sR (sR (sR bd))))))))))).drop 0).take 2)] R (xk 0 (fun f H => T13 (f 0) H Q) nk) (endS PP (resOf PP fid) Q) f H) (funext fun f => funext fun H => L18 Q f H : (runI PP XX [.code (sR (cE (sR (bB (sR (sL (sR (sR (sR (sR bd))))))))))] (fun f H => T13 (f 0) H Q) (xk 0 (fun f H => T13 (f 0) H Q) nk) (endS PP (resOf PP fid) Q)) = (fun f H => T18 (f 0) (f 1) (f 5) (f 68) (f 75) H Q))) (by kernel_rfl))
def T15 (a0 a1 a5 a68 a69 : AV) (H : Heap) (Q : HK) : Prop :=
  boolS a69 (T16 a0 a1 a5 H Q) (T17 a0 a1 a5 a68 H Q)
theorem L15 (Q : HK) (f : FrF) (H : Heap) : runI PP XX [.code (sR (bB (sR (sL (sR (sR (sR (sR bd))))))))] (fun f H => T13 (f 0) H Q) (xk 0 (fun f H => T13 (f 0) H Q) nk) (endS PP (resOf PP fid) Q) f H = T15 (f 0) (f 1) (f 5) (f 68) (f 69) H Q :=
  (id (Eq.trans (b := boolS (f 69) (runI PP XX [.code (cT (sR (bB (sR (sL (sR (sR (sR (sR bd)))))))))] (fun f H => T13 (f 0) H Q) (xk 0 (fun f H => T13 (f 0) H Q) nk) (endS PP (resOf PP fid) Q) f H) (runI PP XX [.code (cE (sR (bB (sR (sL (sR (sR (sR (sR bd)))))))))] (fun f H => T13 (f 0) H Q) (xk 0 (fun f H => T13 (f 0) H Q) nk) (endS PP (resOf PP fid) Q) f H)) (by kernel_rfl) (boolS_congr _ (L16 Q f H) (L17 Q f H))))
def T14 (a0 a1 a5 a68 : AV) (H : Heap) (Q : HK) : Prop :=
  OS2 (xBin PP .eql t_i64 a68 (.int .i64 3) H) fun a70 H =>
  T15 a0 a1 a5 a68 a70 H Q
theorem L14 (Q : HK) (f : FrF) (H : Heap) : runI PP XX [.code (bB (sR (sL (sR (sR (sR (sR bd)))))))] (fun f H => T13 (f 0) H Q) (xk 0 (fun f H => T13 (f 0) H Q) nk) (endS PP (resOf PP fid) Q) f H = T14 (f 0) (f 1) (f 5) (f 68) H Q :=
  Eq.trans (b := (fun R : PK => runI PP XX [.ops (rO (sL (bB (sR (sL (sR (sR (sR (sR bd))))))))) (((rO (sL (bB (sR (sL (sR (sR (sR (sR bd))))))))).drop 0).take 2)] R (xk 0 (fun f H => T13 (f 0) H Q) nk) (endS PP (resOf PP fid) Q) f H) (runI PP XX [.code (sR (bB (sR (sL (sR (sR (sR (sR bd))))))))] (fun f H => T13 (f 0) H Q) (xk 0 (fun f H => T13 (f 0) H Q) nk) (endS PP (resOf PP fid) Q))) (by kernel_rfl) (Eq.trans (congrArg (fun R : PK => runI PP XX [.ops (rO (sL (bB (sR (sL (sR (sR (sR (sR bd))))))))) (((rO (sL (bB (sR (sL (sR (sR (sR (sR bd))))))))).drop 0).take 2)] R (xk 0 (fun f H => T13 (f 0) H Q) nk) (endS PP (resOf PP fid) Q) f H) (funext fun f => funext fun H => L15 Q f H : (runI PP XX [.code (sR (bB (sR (sL (sR (sR (sR (sR bd))))))))] (fun f H => T13 (f 0) H Q) (xk 0 (fun f H => T13 (f 0) H Q) nk) (endS PP (resOf PP fid) Q)) = (fun f H => T15 (f 0) (f 1) (f 5) (f 68) (f 69) H Q))) (by kernel_rfl))
def T12 (a0 a1 a5 a68 : AV) (H : Heap) (Q : HK) : Prop :=
  T14 a0 a1 a5 a68 H Q
theorem L12 (Q : HK) (f : FrF) (H : Heap) : runI PP XX [.code (sR (sL (sR (sR (sR (sR bd)))))), .ops (rO (sL (sR (sR (sR (sR (sR bd))))))) (((rO (sL (sR (sR (sR (sR (sR bd))))))).drop 0).take 3), .code (sR (sR (sR (sR (sR (sR bd))))))] (endS PP (resOf PP fid) Q) nk (endS PP (resOf PP fid) Q) f H = T12 (f 0) (f 1) (f 5) (f 68) H Q :=
  Eq.trans (b := (fun R : PK => runI PP XX [.code (sR (sL (sR (sR (sR (sR bd))))))] R nk (endS PP (resOf PP fid) Q) f H) (runI PP XX [.ops (rO (sL (sR (sR (sR (sR (sR bd))))))) (((rO (sL (sR (sR (sR (sR (sR bd))))))).drop 0).take 3), .code (sR (sR (sR (sR (sR (sR bd))))))] (endS PP (resOf PP fid) Q) nk (endS PP (resOf PP fid) Q))) (by kernel_rfl) (Eq.trans (congrArg (fun R : PK => runI PP XX [.code (sR (sL (sR (sR (sR (sR bd))))))] R nk (endS PP (resOf PP fid) Q) f H) (funext fun f => funext fun H => L13 Q f H : (runI PP XX [.ops (rO (sL (sR (sR (sR (sR (sR bd))))))) (((rO (sL (sR (sR (sR (sR (sR bd))))))).drop 0).take 3), .code (sR (sR (sR (sR (sR (sR bd))))))] (endS PP (resOf PP fid) Q) nk (endS PP (resOf PP fid) Q)) = (fun f H => T13 (f 0) H Q))) (Eq.trans (b := runI PP XX [.code (bB (sR (sL (sR (sR (sR (sR bd)))))))] (fun f H => T13 (f 0) H Q) (xk 0 (fun f H => T13 (f 0) H Q) nk) (endS PP (resOf PP fid) Q) f H) (by kernel_rfl) (L14 Q f H)))
def T11 (a0 a1 a5 : AV) (H : Heap) (Q : HK) : Prop :=
  OS2 (xFieldAddr PP t_api_Msg 0 a5 H) fun a67 H =>
  OS2 (xLoad PP t_i64 a67 H) fun a68 H =>
  T12 a0 a1 a5 a68 H Q
theorem L11 (Q : HK) (f : FrF) (H : Heap) : runI PP XX [.ops (rO (sL (sL (sR (sR (sR (sR bd))))))) (((rO (sL (sL (sR (sR (sR (sR bd))))))).drop 0).take 2), .code (sR (sL (sR (sR (sR (sR bd)))))), .ops (rO (sL (sR (sR (sR (sR (sR bd))))))) (((rO (sL (sR (sR (sR (sR (sR bd))))))).drop 0).take 3), .code (sR (sR (sR (sR (sR (sR bd))))))] (endS PP (resOf PP fid) Q) nk (endS PP (resOf PP fid) Q) f H = T11 (f 0) (f 1) (f 5) H Q :=
  Eq.trans (b := (fun R : PK => runI PP XX [.ops (rO (sL (sL (sR (sR (sR (sR bd))))))) (((rO (sL (sL (sR (sR (sR (sR bd))))))).drop 0).take 2)] R nk (endS PP (resOf PP fid) Q) f H) (runI PP XX [.code (sR (sL (sR (sR (sR (sR bd)))))), .ops (rO (sL (sR (sR (sR (sR (sR bd))))))) (((rO (sL (sR (sR (sR (sR (sR bd))))))).drop 0).take 3), .code (sR (sR (sR (sR (sR (sR bd))))))] (endS PP (resOf PP fid) Q) nk (endS PP (resOf PP fid) Q))) (by kernel_rfl) (Eq.trans (congrArg (fun R : PK => runI PP XX [.ops (rO (sL (sL (sR (sR (sR (sR bd))))))) (((rO (sL (sL (sR (sR (sR (sR bd))))))).drop 0).take 2)] R nk (endS PP (resOf PP fid) Q) f H) (funext fun f => funext fun H => L12 Q f H : (runI PP XX [.code (sR (sL (sR (sR (sR (sR bd)))))), .ops (rO (sL (sR (sR (sR (sR (sR bd))))))) (((rO (sL (sR (sR (sR (sR (sR bd))))))).drop 0).take 3), .code (sR (sR (sR (sR (sR (sR bd))))))] (endS PP (resOf PP fid) Q) nk (endS PP (resOf PP fid) Q)) = (fun f H => T12 (f 0) (f 1) (f 5) (f 68) H Q))) (by kernel_rfl))
def T10 (a0 a1 a5 a55 a65 : AV) (H : Heap) (Q : HK) : Prop :=
  OS2 (xPick a55 (.bool true) a65 H) fun a66 H =>
  boolS a66
    (Q .nils H)
    (T11 a0 a1 a5 H Q)
theorem L10 (Q : HK) (f : FrF) (H : Heap) : runI PP XX [.ops (rO (sL (sL (sR (sR (sR bd)))))) (((rO (sL (sL (sR (sR (sR bd)))))).drop 29).take 1), .code (sR (sL (sR (sR (sR bd))))), .ops (rO (sL (sL (sR (sR (sR (sR bd))))))) (((rO (sL (sL (sR (sR (sR (sR bd))))))).drop 0).take 2), .code (sR (sL (sR (sR (sR (sR bd)))))), .ops (rO (sL (sR (sR (sR (sR (sR bd))))))) (((rO (sL (sR (sR (sR (sR (sR bd))))))).drop 0).take 3), .code (sR (sR (sR (sR (sR (sR bd))))))] (endS PP (resOf PP fid) Q) nk (endS PP (resOf PP fid) Q) f H = T10 (f 0) (f 1) (f 5) (f 55) (f 65) H Q :=
  Eq.trans (b := (fun R : PK => runI PP XX [.ops (rO (sL (sL (sR (sR (sR bd)))))) (((rO (sL (sL (sR (sR (sR bd)))))).drop 29).take 1), .code (sR (sL (sR (sR (sR bd)))))] R nk (endS PP (resOf PP fid) Q) f H) (runI PP XX [.ops (rO (sL (sL (sR (sR (sR (sR bd))))))) (((rO (sL (sL (sR (sR (sR (sR bd))))))).drop 0).take 2), .code (sR (sL (sR (sR (sR (sR bd)))))), .ops (rO (sL (sR (sR (sR (sR (sR bd))))))) (((rO (sL (sR (sR (sR (sR (sR bd))))))).drop 0).take 3), .code (sR (sR (sR (sR (sR (sR bd))))))] (endS PP (resOf PP fid) Q) nk (endS PP (resOf PP fid) Q))) (by kernel_rfl) (Eq.trans (congrArg (fun R : PK => runI PP XX [.ops (rO (sL (sL (sR (sR (sR bd)))))) (((rO (sL (sL (sR (sR (sR bd)))))).drop 29).take 1), .code (sR (sL (sR (sR (sR bd)))))] R nk (endS PP (resOf PP fid) Q) f H) (funext fun f => funext fun H => L11 Q f H : (runI PP XX [.ops (rO (sL (sL (sR (sR (sR (sR bd))))))) (((rO (sL (sL (sR (sR (sR (sR bd))))))).drop 0).take 2), .code (sR (sL (sR (sR (sR (sR bd)))))), .ops (rO (sL (sR (sR (sR (sR (sR bd))))))) (((rO (sL (sR (sR (sR (sR (sR bd))))))).drop 0).take 3), .code (sR (sR (sR (sR (sR (sR bd))))))] (endS PP (resOf PP fid) Q) nk (endS PP (resOf PP fid) Q)) = (fun f H => T11 (f 0) (f 1) (f 5) H Q))) (by kernel_rfl))
def T9 (a0 a1 a5 a55 a61 a64 : AV) (H : Heap) (Q : HK) : Prop :=
  guardS false a55
    (OS2 (xPick a61 a64 (.bool false) H) fun a65 H =>
    T10 a0 a1 a5 a55 a65 H Q)
    (T10 a0 a1 a5 a55 undefA H Q)
theorem L9 (Q : HK) (f : FrF) (H : Heap) : runI PP XX [.ops (rO (sL (sL (sR (sR (sR bd)))))) (((rO (sL (sL (sR (sR (sR bd)))))).drop 28).take 2), .code (sR (sL (sR (sR (sR bd))))), .ops (rO (sL (sL (sR (sR (sR (sR bd))))))) (((rO (sL (sL (sR (sR (sR (sR bd))))))).drop 0).take 2), .code (sR (sL (sR (sR (sR (sR bd)))))), .ops (rO (sL (sR (sR (sR (sR (sR bd))))))) (((rO (sL (sR (sR (sR (sR (sR bd))))))).drop 0).take 3), .code (sR (sR (sR (sR (sR (sR bd))))))] (endS PP (resOf PP fid) Q) nk (endS PP (resOf PP fid) Q) f H = T9 (f 0) (f 1) (f 5) (f 55) (f 61) (f 64) H Q :=
  Eq.trans (b := (fun R : PK => runI PP XX [.ops (rO (sL (sL (sR (sR (sR bd)))))) (((rO (sL (sL (sR (sR (sR bd)))))).drop 28).take 1)] R nk (endS PP (resOf PP fid) Q) f H) (runI PP XX [.ops (rO (sL (sL (sR (sR (sR bd)))))) (((rO (sL (sL (sR (sR (sR bd)))))).drop 29).take 1), .code (sR (sL (sR (sR (sR bd))))), .ops (rO (sL (sL (sR (sR (sR (sR bd))))))) (((rO (sL (sL (sR (sR (sR (sR bd))))))).drop 0).take 2), .code (sR (sL (sR (sR (sR (sR bd)))))), .ops (rO (sL (sR (sR (sR (sR (sR bd))))))) (((rO (sL (sR (sR (sR (sR (sR bd))))))).drop 0).take 3), .code (sR (sR (sR (sR (sR (sR bd))))))] (endS PP (resOf PP fid) Q) nk (endS PP (resOf PP fid) Q))) (by kernel_rfl) (Eq.trans (congrArg (fun R : PK => runI PP XX [.ops (rO (sL (sL (sR (sR (sR bd)))))) (((rO (sL (sL (sR (sR (sR bd)))))).drop 28).take 1)] R nk (endS PP (resOf PP fid) Q) f H) (funext fun f => funext fun H => L10 Q f H : (runI PP XX [.ops (rO (sL (sL (sR (sR (sR bd)))))) (((rO (sL (sL (sR (sR (sR bd)))))).drop 29).take 1), .code (sR (sL (sR (sR (sR bd))))), .ops (rO (sL (sL (sR (sR (sR (sR bd))))))) (((rO (sL (sL (sR (sR (sR (sR bd))))))).drop 0).take 2), .code (sR (sL (sR (sR (sR (sR bd)))))), .ops (rO (sL (sR (sR (sR (sR (sR bd))))))) (((rO (sL (sR (sR (sR (sR (sR bd))))))).drop 0).take 3), .code (sR (sR (sR (sR (sR (sR bd))))))] (endS PP (resOf PP fid) Q) nk (endS PP (resOf PP fid) Q)) = (fun f H => T10 (f 0) (f 1) (f 5) (f 55) (f 65) H Q))) (by kernel_rfl))
def T8 (a0 a1 a5 a55 a61 : AV) (H : Heap) (Q : HK) : Prop :=
  guardS true a61
    (OS2 (xFieldAddr PP t_api_Msg 0 a5 H) fun a62 H =>
    OS2 (xLoad PP t_i64 a62 H) fun a63 H =>
    OS2 (xBin PP .neq t_i64 a63 (.int .i64 13) H) fun a64 H =>
    T9 a0 a1 a5 a55 a61 a64 H Q)
    (T9 a0 a1 a5 a55 a61 undefA H Q)
theorem L8 (Q : HK) (f : FrF) (H : Heap) : runI PP XX [.ops (rO (sL (sL (sR (sR (sR bd)))))) (((rO (sL (sL (sR (sR (sR bd)))))).drop 25).take 5), .code (sR (sL (sR (sR (sR bd))))), .ops (rO (sL (sL (sR (sR (sR (sR bd))))))) (((rO (sL (sL (sR (sR (sR (sR bd))))))).drop 0).take 2), .code (sR (sL (sR (sR (sR (sR bd)))))), .ops (rO (sL (sR (sR (sR (sR (sR bd))))))) (((rO (sL (sR (sR (sR (sR (sR bd))))))).drop 0).take 3), .code (sR (sR (sR (sR (sR (sR bd))))))] (endS PP (resOf PP fid) Q) nk (endS PP (resOf PP fid) Q) f H = T8 (f 0) (f 1) (f 5) (f 55) (f 61) H Q :=
  Eq.trans (b := (fun R : PK => runI PP XX [.ops (rO (sL (sL (sR (sR (sR bd)))))) (((rO (sL (sL (sR (sR (sR bd)))))).drop 25).take 3)] R nk (endS PP (resOf PP fid) Q) f H) (runI PP XX [.ops (rO (sL (sL (sR (sR (sR bd)))))) (((rO (sL (sL (sR (sR (sR bd)))))).drop 28).take 2), .code (sR (sL (sR (sR (sR bd))))), .ops (rO (sL (sL (sR (sR (sR (sR bd))))))) (((rO (sL (sL (sR (sR (sR (sR bd))))))).drop 0).take 2), .code (sR (sL (sR (sR (sR (sR bd)))))), .ops (rO (sL (sR (sR (sR (sR (sR bd))))))) (((rO (sL (sR (sR (sR (sR (sR bd))))))).drop 0).take 3), .code (sR (sR (sR (sR (sR (sR bd))))))] (endS PP (resOf PP fid) Q) nk (endS PP (resOf PP fid) Q))) (by kernel_rfl) (Eq.trans (congrArg (fun R : PK => runI PP XX [.ops (rO (sL (sL (sR (sR (sR bd)))))) (((rO (sL (sL (sR (sR (sR bd)))))).drop 25).take 3)] R nk (endS PP (resOf PP fid) Q) f H) (funext fun f => funext fun H => L9 Q f H : (runI PP XX [.ops (rO (sL (sL (sR (sR (sR bd)))))) (((rO (sL (sL (sR (sR (sR bd)))))).drop 28).take 2), .code (sR (sL (sR (sR (sR bd))))), .ops (rO (sL (sL (sR (sR (sR (sR bd))))))) (((rO (sL (sL (sR (sR (sR (sR bd))))))).drop 0).take 2), .code (sR (sL (sR (sR (sR (sR bd)))))), .ops (rO (sL (sR (sR (sR (sR (sR bd))))))) (((rO (sL (sR (sR (sR (sR (sR bd))))))).drop 0).take 3), .code (sR (sR (sR (sR (sR (sR bd))))))] (endS PP (resOf PP fid) Q) nk (endS PP (resOf PP fid) Q)) = (fun f H => T9 (f 0) (f 1) (f 5) (f 55) (f 61) (f 64) H Q))) (by kernel_rfl))
def T7 (a0 a1 a5 a46 a53 : AV) (H : Heap) (Q : HK) : Prop :=
  OS2 (xPick a46 (.bool true) a53 H) fun a54 H =>
  guardS false a54
    (OS2 (xNil a0 H) fun a57 H =>
    OS2 (xFieldAddr PP t_replica_Replica 2 a57 H) fun a58 H =>
    OS2 (xLoad PP t_i64 a58 H) fun a59 H =>
    OS2 (xBin PP .eql t_i64 a59 (.int .i64 3) H) fun a60 H =>
    T8 a0 a1 a5 a54 a60 H Q)
    (T8 a0 a1 a5 a54 undefA H Q)
theorem L7 (Q : HK) (f : FrF) (H : Heap) : runI PP XX [.ops (rO (sL (sL (sR (sR (sR bd)))))) (((rO (sL (sL (sR (sR (sR bd)))))).drop 17).take 13), .code (sR (sL (sR (sR (sR bd))))), .ops (rO (sL (sL (sR (sR (sR (sR bd))))))) (((rO (sL (sL (sR (sR (sR (sR bd))))))).drop 0).take 2), .code (sR (sL (sR (sR (sR (sR bd)))))), .ops (rO (sL (sR (sR (sR (sR (sR bd))))))) (((rO (sL (sR (sR (sR (sR (sR bd))))))).drop 0).take 3), .code (sR (sR (sR (sR (sR (sR bd))))))] (endS PP (resOf PP fid) Q) nk (endS PP (resOf PP fid) Q) f H = T7 (f 0) (f 1) (f 5) (f 46) (f 53) H Q :=
  Eq.trans (b := (fun R : PK => runI PP XX [.ops (rO (sL (sL (sR (sR (sR bd)))))) (((rO (sL (sL (sR (sR (sR bd)))))).drop 17).take 2), .ops (rO (sL (sL (sR (sR (sR bd)))))) (((rO (sL (sL (sR (sR (sR bd)))))).drop 19).take 6)] R nk (endS PP (resOf PP fid) Q) f H) (runI PP XX [.ops (rO (sL (sL (sR (sR (sR bd)))))) (((rO (sL (sL (sR (sR (sR bd)))))).drop 25).take 5), .code (sR (sL (sR (sR (sR bd))))), .ops (rO (sL (sL (sR (sR (sR (sR bd))))))) (((rO (sL (sL (sR (sR (sR (sR bd))))))).drop 0).take 2), .code (sR (sL (sR (sR (sR (sR bd)))))), .ops (rO (sL (sR (sR (sR (sR (sR bd))))))) (((rO (sL (sR (sR (sR (sR (sR bd))))))).drop 0).take 3), .code (sR (sR (sR (sR (sR (sR bd))))))] (endS PP (resOf PP fid) Q) nk (endS PP (resOf PP fid) Q))) (by kernel_rfl) (Eq.trans (congrArg (fun R : PK => runI PP XX [.ops (rO (sL (sL (sR (sR (sR bd)))))) (((rO (sL (sL (sR (sR (sR bd)))))).drop 17).take 2), .ops (rO (sL (sL (sR (sR (sR bd)))))) (((rO (sL (sL (sR (sR (sR bd)))))).drop 19).take 6)] R nk (endS PP (resOf PP fid) Q) f H) (funext fun f => funext fun H => L8 Q f H : (runI PP XX [.ops (rO (sL (sL (sR (sR (sR bd)))))) (((rO (sL (sL (sR (sR (sR bd)))))).drop 25).take 5), .code (sR (sL (sR (sR (sR bd))))), .ops (rO (sL (sL (sR (sR (sR (sR bd))))))) (((rO (sL (sL (sR (sR (sR (sR bd))))))).drop 0).take 2), .code (sR (sL (sR (sR (sR (sR bd)))))), .ops (rO (sL (sR (sR (sR (sR (sR bd))))))) (((rO (sL (sR (sR (sR (sR (sR bd))))))).drop 0).take 3), .code (sR (sR (sR (sR (sR (sR bd))))))] (endS PP (resOf PP fid) Q) nk (endS PP (resOf PP fid) Q)) = (fun f H => T8 (f 0) (f 1) (f 5) (f 55) (f 61) H Q))) (by kernel_rfl))
def T6 (a0 a1 a5 : AV) (H : Heap) (Q : HK) : Prop :=
  OS2 (xNil a0 H) fun a39 H =>
  OS2 (xFieldAddr PP t_replica_Replica 0 a39 H) fun a40 H =>
  OS2 (xFieldAddr PP t_api_Seat 0 a40 H) fun a41 H =>
  OS2 (xLoad PP t_i64 a41 H) fun a42 H =>
  OS2 (xBin PP .sub t_i64 a42 (.int .i64 1) H) fun a43 H =>
  WF PP XX (.func n_replica_within [] []) [a1, (.int .i64 0), a43] H fun a44 H =>
  OS2 (xUn .not a44 H) fun a45 H =>
  guardS false a45
    (OS2 (xNil a0 H) fun a49 H =>
    OS2 (xFieldAddr PP t_replica_Replica 0 a49 H) fun a50 H =>
    OS2 (xFieldAddr PP t_api_Seat 1 a50 H) fun a51 H =>
    OS2 (xLoad PP t_i64 a51 H) fun a52 H =>
    OS2 (xBin PP .eql t_i64 a1 a52 H) fun a53 H =>
    T7 a0 a1 a5 a45 a53 H Q)
    (T7 a0 a1 a5 a45 undefA H Q)
theorem L6 (Q : HK) (f : FrF) (H : Heap) : runI PP XX [.ops (rO (sL (sL (sR (sR (sR bd)))))) (((rO (sL (sL (sR (sR (sR bd)))))).drop 0).take 30), .code (sR (sL (sR (sR (sR bd))))), .ops (rO (sL (sL (sR (sR (sR (sR bd))))))) (((rO (sL (sL (sR (sR (sR (sR bd))))))).drop 0).take 2), .code (sR (sL (sR (sR (sR (sR bd)))))), .ops (rO (sL (sR (sR (sR (sR (sR bd))))))) (((rO (sL (sR (sR (sR (sR (sR bd))))))).drop 0).take 3), .code (sR (sR (sR (sR (sR (sR bd))))))] (endS PP (resOf PP fid) Q) nk (endS PP (resOf PP fid) Q) f H = T6 (f 0) (f 1) (f 5) H Q :=
  Eq.trans (b := (fun R : PK => runI PP XX [.ops (rO (sL (sL (sR (sR (sR bd)))))) (((rO (sL (sL (sR (sR (sR bd)))))).drop 0).take 10), .ops (rO (sL (sL (sR (sR (sR bd)))))) (((rO (sL (sL (sR (sR (sR bd)))))).drop 10).take 7)] R nk (endS PP (resOf PP fid) Q) f H) (runI PP XX [.ops (rO (sL (sL (sR (sR (sR bd)))))) (((rO (sL (sL (sR (sR (sR bd)))))).drop 17).take 13), .code (sR (sL (sR (sR (sR bd))))), .ops (rO (sL (sL (sR (sR (sR (sR bd))))))) (((rO (sL (sL (sR (sR (sR (sR bd))))))).drop 0).take 2), .code (sR (sL (sR (sR (sR (sR bd)))))), .ops (rO (sL (sR (sR (sR (sR (sR bd))))))) (((rO (sL (sR (sR (sR (sR (sR bd))))))).drop 0).take 3), .code (sR (sR (sR (sR (sR (sR bd))))))] (endS PP (resOf PP fid) Q) nk (endS PP (resOf PP fid) Q))) (by kernel_rfl) (Eq.trans (congrArg (fun R : PK => runI PP XX [.ops (rO (sL (sL (sR (sR (sR bd)))))) (((rO (sL (sL (sR (sR (sR bd)))))).drop 0).take 10), .ops (rO (sL (sL (sR (sR (sR bd)))))) (((rO (sL (sL (sR (sR (sR bd)))))).drop 10).take 7)] R nk (endS PP (resOf PP fid) Q) f H) (funext fun f => funext fun H => L7 Q f H : (runI PP XX [.ops (rO (sL (sL (sR (sR (sR bd)))))) (((rO (sL (sL (sR (sR (sR bd)))))).drop 17).take 13), .code (sR (sL (sR (sR (sR bd))))), .ops (rO (sL (sL (sR (sR (sR (sR bd))))))) (((rO (sL (sL (sR (sR (sR (sR bd))))))).drop 0).take 2), .code (sR (sL (sR (sR (sR (sR bd)))))), .ops (rO (sL (sR (sR (sR (sR (sR bd))))))) (((rO (sL (sR (sR (sR (sR (sR bd))))))).drop 0).take 3), .code (sR (sR (sR (sR (sR (sR bd))))))] (endS PP (resOf PP fid) Q) nk (endS PP (resOf PP fid) Q)) = (fun f H => T7 (f 0) (f 1) (f 5) (f 46) (f 53) H Q))) (by kernel_rfl))
def T5 (a0 a1 a5 : AV) (H : Heap) (Q : HK) : Prop :=
  OS2 (xFieldAddr PP t_api_Msg 0 a5 H) fun a28 H =>
  OS2 (xLoad PP t_i64 a28 H) fun a29 H =>
  OS2 (xBin PP .eql t_i64 a29 (.int .i64 1) H) fun a30 H =>
  boolS a30
    (OS2 (xFieldAddr PP t_api_Msg 9 a5 H) fun a32 H =>
    OS2 (xLoad PP t_api_Request a32 H) fun a33 H =>
    WF PP XX (.func n_Preplica_Replica_request [] []) [a0, a33] H fun a34 H =>
    WF PP XX (.func n_Preplica_Replica_told [] []) [a0] H fun a36 H =>
    Q a36 H)
    (T6 a0 a1 a5 H Q)
theorem L5 (Q : HK) (f : FrF) (H : Heap) : runI PP XX [.ops (rO (sL (sL (sR (sR bd))))) (((rO (sL (sL (sR (sR bd))))).drop 0).take 3), .code (sR (sL (sR (sR bd)))), .ops (rO (sL (sL (sR (sR (sR bd)))))) (((rO (sL (sL (sR (sR (sR bd)))))).drop 0).take 30), .code (sR (sL (sR (sR (sR bd))))), .ops (rO (sL (sL (sR (sR (sR (sR bd))))))) (((rO (sL (sL (sR (sR (sR (sR bd))))))).drop 0).take 2), .code (sR (sL (sR (sR (sR (sR bd)))))), .ops (rO (sL (sR (sR (sR (sR (sR bd))))))) (((rO (sL (sR (sR (sR (sR (sR bd))))))).drop 0).take 3), .code (sR (sR (sR (sR (sR (sR bd))))))] (endS PP (resOf PP fid) Q) nk (endS PP (resOf PP fid) Q) f H = T5 (f 0) (f 1) (f 5) H Q :=
  Eq.trans (b := (fun R : PK => runI PP XX [.ops (rO (sL (sL (sR (sR bd))))) (((rO (sL (sL (sR (sR bd))))).drop 0).take 3), .code (sR (sL (sR (sR bd))))] R nk (endS PP (resOf PP fid) Q) f H) (runI PP XX [.ops (rO (sL (sL (sR (sR (sR bd)))))) (((rO (sL (sL (sR (sR (sR bd)))))).drop 0).take 30), .code (sR (sL (sR (sR (sR bd))))), .ops (rO (sL (sL (sR (sR (sR (sR bd))))))) (((rO (sL (sL (sR (sR (sR (sR bd))))))).drop 0).take 2), .code (sR (sL (sR (sR (sR (sR bd)))))), .ops (rO (sL (sR (sR (sR (sR (sR bd))))))) (((rO (sL (sR (sR (sR (sR (sR bd))))))).drop 0).take 3), .code (sR (sR (sR (sR (sR (sR bd))))))] (endS PP (resOf PP fid) Q) nk (endS PP (resOf PP fid) Q))) (by kernel_rfl) (Eq.trans (congrArg (fun R : PK => runI PP XX [.ops (rO (sL (sL (sR (sR bd))))) (((rO (sL (sL (sR (sR bd))))).drop 0).take 3), .code (sR (sL (sR (sR bd))))] R nk (endS PP (resOf PP fid) Q) f H) (funext fun f => funext fun H => L6 Q f H : (runI PP XX [.ops (rO (sL (sL (sR (sR (sR bd)))))) (((rO (sL (sL (sR (sR (sR bd)))))).drop 0).take 30), .code (sR (sL (sR (sR (sR bd))))), .ops (rO (sL (sL (sR (sR (sR (sR bd))))))) (((rO (sL (sL (sR (sR (sR (sR bd))))))).drop 0).take 2), .code (sR (sL (sR (sR (sR (sR bd)))))), .ops (rO (sL (sR (sR (sR (sR (sR bd))))))) (((rO (sL (sR (sR (sR (sR (sR bd))))))).drop 0).take 3), .code (sR (sR (sR (sR (sR (sR bd))))))] (endS PP (resOf PP fid) Q) nk (endS PP (resOf PP fid) Q)) = (fun f H => T6 (f 0) (f 1) (f 5) H Q))) (by kernel_rfl))
def T4 (a0 a1 a5 a23 a26 : AV) (H : Heap) (Q : HK) : Prop :=
  OS2 (xPick a23 (.bool true) a26 H) fun a27 H =>
  boolS a27
    (Q .nils H)
    (T5 a0 a1 a5 H Q)
theorem L4 (Q : HK) (f : FrF) (H : Heap) : runI PP XX [.ops (rO (sL (sL (sR bd)))) (((rO (sL (sL (sR bd)))).drop 20).take 1), .code (sR (sL (sR bd))), .ops (rO (sL (sL (sR (sR bd))))) (((rO (sL (sL (sR (sR bd))))).drop 0).take 3), .code (sR (sL (sR (sR bd)))), .ops (rO (sL (sL (sR (sR (sR bd)))))) (((rO (sL (sL (sR (sR (sR bd)))))).drop 0).take 30), .code (sR (sL (sR (sR (sR bd))))), .ops (rO (sL (sL (sR (sR (sR (sR bd))))))) (((rO (sL (sL (sR (sR (sR (sR bd))))))).drop 0).take 2), .code (sR (sL (sR (sR (sR (sR bd)))))), .ops (rO (sL (sR (sR (sR (sR (sR bd))))))) (((rO (sL (sR (sR (sR (sR (sR bd))))))).drop 0).take 3), .code (sR (sR (sR (sR (sR (sR bd))))))] (endS PP (resOf PP fid) Q) nk (endS PP (resOf PP fid) Q) f H = T4 (f 0) (f 1) (f 5) (f 23) (f 26) H Q :=
  Eq.trans (b := (fun R : PK => runI PP XX [.ops (rO (sL (sL (sR bd)))) (((rO (sL (sL (sR bd)))).drop 20).take 1), .code (sR (sL (sR bd)))] R nk (endS PP (resOf PP fid) Q) f H) (runI PP XX [.ops (rO (sL (sL (sR (sR bd))))) (((rO (sL (sL (sR (sR bd))))).drop 0).take 3), .code (sR (sL (sR (sR bd)))), .ops (rO (sL (sL (sR (sR (sR bd)))))) (((rO (sL (sL (sR (sR (sR bd)))))).drop 0).take 30), .code (sR (sL (sR (sR (sR bd))))), .ops (rO (sL (sL (sR (sR (sR (sR bd))))))) (((rO (sL (sL (sR (sR (sR (sR bd))))))).drop 0).take 2), .code (sR (sL (sR (sR (sR (sR bd)))))), .ops (rO (sL (sR (sR (sR (sR (sR bd))))))) (((rO (sL (sR (sR (sR (sR (sR bd))))))).drop 0).take 3), .code (sR (sR (sR (sR (sR (sR bd))))))] (endS PP (resOf PP fid) Q) nk (endS PP (resOf PP fid) Q))) (by kernel_rfl) (Eq.trans (congrArg (fun R : PK => runI PP XX [.ops (rO (sL (sL (sR bd)))) (((rO (sL (sL (sR bd)))).drop 20).take 1), .code (sR (sL (sR bd)))] R nk (endS PP (resOf PP fid) Q) f H) (funext fun f => funext fun H => L5 Q f H : (runI PP XX [.ops (rO (sL (sL (sR (sR bd))))) (((rO (sL (sL (sR (sR bd))))).drop 0).take 3), .code (sR (sL (sR (sR bd)))), .ops (rO (sL (sL (sR (sR (sR bd)))))) (((rO (sL (sL (sR (sR (sR bd)))))).drop 0).take 30), .code (sR (sL (sR (sR (sR bd))))), .ops (rO (sL (sL (sR (sR (sR (sR bd))))))) (((rO (sL (sL (sR (sR (sR (sR bd))))))).drop 0).take 2), .code (sR (sL (sR (sR (sR (sR bd)))))), .ops (rO (sL (sR (sR (sR (sR (sR bd))))))) (((rO (sL (sR (sR (sR (sR (sR bd))))))).drop 0).take 3), .code (sR (sR (sR (sR (sR (sR bd))))))] (endS PP (resOf PP fid) Q) nk (endS PP (resOf PP fid) Q)) = (fun f H => T5 (f 0) (f 1) (f 5) H Q))) (by kernel_rfl))
def T3 (a0 a1 a5 a16 a21 : AV) (H : Heap) (Q : HK) : Prop :=
  OS2 (xPick a16 (.bool true) a21 H) fun a22 H =>
  guardS false a22
    (OS2 (xLoad PP t_api_Msg a5 H) fun a24 H =>
    WF PP XX (.func n_msg_May [] []) [a24] H fun a25 H =>
    OS2 (xUn .not a25 H) fun a26 H =>
    T4 a0 a1 a5 a22 a26 H Q)
    (T4 a0 a1 a5 a22 undefA H Q)
theorem L3 (Q : HK) (f : FrF) (H : Heap) : runI PP XX [.ops (rO (sL (sL (sR bd)))) (((rO (sL (sL (sR bd)))).drop 15).take 6), .code (sR (sL (sR bd))), .ops (rO (sL (sL (sR (sR bd))))) (((rO (sL (sL (sR (sR bd))))).drop 0).take 3), .code (sR (sL (sR (sR bd)))), .ops (rO (sL (sL (sR (sR (sR bd)))))) (((rO (sL (sL (sR (sR (sR bd)))))).drop 0).take 30), .code (sR (sL (sR (sR (sR bd))))), .ops (rO (sL (sL (sR (sR (sR (sR bd))))))) (((rO (sL (sL (sR (sR (sR (sR bd))))))).drop 0).take 2), .code (sR (sL (sR (sR (sR (sR bd)))))), .ops (rO (sL (sR (sR (sR (sR (sR bd))))))) (((rO (sL (sR (sR (sR (sR (sR bd))))))).drop 0).take 3), .code (sR (sR (sR (sR (sR (sR bd))))))] (endS PP (resOf PP fid) Q) nk (endS PP (resOf PP fid) Q) f H = T3 (f 0) (f 1) (f 5) (f 16) (f 21) H Q :=
  Eq.trans (b := (fun R : PK => runI PP XX [.ops (rO (sL (sL (sR bd)))) (((rO (sL (sL (sR bd)))).drop 15).take 2), .ops (rO (sL (sL (sR bd)))) (((rO (sL (sL (sR bd)))).drop 17).take 3)] R nk (endS PP (resOf PP fid) Q) f H) (runI PP XX [.ops (rO (sL (sL (sR bd)))) (((rO (sL (sL (sR bd)))).drop 20).take 1), .code (sR (sL (sR bd))), .ops (rO (sL (sL (sR (sR bd))))) (((rO (sL (sL (sR (sR bd))))).drop 0).take 3), .code (sR (sL (sR (sR bd)))), .ops (rO (sL (sL (sR (sR (sR bd)))))) (((rO (sL (sL (sR (sR (sR bd)))))).drop 0).take 30), .code (sR (sL (sR (sR (sR bd))))), .ops (rO (sL (sL (sR (sR (sR (sR bd))))))) (((rO (sL (sL (sR (sR (sR (sR bd))))))).drop 0).take 2), .code (sR (sL (sR (sR (sR (sR bd)))))), .ops (rO (sL (sR (sR (sR (sR (sR bd))))))) (((rO (sL (sR (sR (sR (sR (sR bd))))))).drop 0).take 3), .code (sR (sR (sR (sR (sR (sR bd))))))] (endS PP (resOf PP fid) Q) nk (endS PP (resOf PP fid) Q))) (by kernel_rfl) (Eq.trans (congrArg (fun R : PK => runI PP XX [.ops (rO (sL (sL (sR bd)))) (((rO (sL (sL (sR bd)))).drop 15).take 2), .ops (rO (sL (sL (sR bd)))) (((rO (sL (sL (sR bd)))).drop 17).take 3)] R nk (endS PP (resOf PP fid) Q) f H) (funext fun f => funext fun H => L4 Q f H : (runI PP XX [.ops (rO (sL (sL (sR bd)))) (((rO (sL (sL (sR bd)))).drop 20).take 1), .code (sR (sL (sR bd))), .ops (rO (sL (sL (sR (sR bd))))) (((rO (sL (sL (sR (sR bd))))).drop 0).take 3), .code (sR (sL (sR (sR bd)))), .ops (rO (sL (sL (sR (sR (sR bd)))))) (((rO (sL (sL (sR (sR (sR bd)))))).drop 0).take 30), .code (sR (sL (sR (sR (sR bd))))), .ops (rO (sL (sL (sR (sR (sR (sR bd))))))) (((rO (sL (sL (sR (sR (sR (sR bd))))))).drop 0).take 2), .code (sR (sL (sR (sR (sR (sR bd)))))), .ops (rO (sL (sR (sR (sR (sR (sR bd))))))) (((rO (sL (sR (sR (sR (sR (sR bd))))))).drop 0).take 3), .code (sR (sR (sR (sR (sR (sR bd))))))] (endS PP (resOf PP fid) Q) nk (endS PP (resOf PP fid) Q)) = (fun f H => T4 (f 0) (f 1) (f 5) (f 23) (f 26) H Q))) (by kernel_rfl))
def T2 (a0 a1 a5 a9 a14 : AV) (H : Heap) (Q : HK) : Prop :=
  OS2 (xPick a9 (.bool true) a14 H) fun a15 H =>
  guardS false a15
    (OS2 (xNil a0 H) fun a18 H =>
    OS2 (xFieldAddr PP t_replica_Replica 2 a18 H) fun a19 H =>
    OS2 (xLoad PP t_i64 a19 H) fun a20 H =>
    OS2 (xBin PP .eql t_i64 a20 (.int .i64 4) H) fun a21 H =>
    T3 a0 a1 a5 a15 a21 H Q)
    (T3 a0 a1 a5 a15 undefA H Q)
theorem L2 (Q : HK) (f : FrF) (H : Heap) : runI PP XX [.ops (rO (sL (sL (sR bd)))) (((rO (sL (sL (sR bd)))).drop 8).take 13), .code (sR (sL (sR bd))), .ops (rO (sL (sL (sR (sR bd))))) (((rO (sL (sL (sR (sR bd))))).drop 0).take 3), .code (sR (sL (sR (sR bd)))), .ops (rO (sL (sL (sR (sR (sR bd)))))) (((rO (sL (sL (sR (sR (sR bd)))))).drop 0).take 30), .code (sR (sL (sR (sR (sR bd))))), .ops (rO (sL (sL (sR (sR (sR (sR bd))))))) (((rO (sL (sL (sR (sR (sR (sR bd))))))).drop 0).take 2), .code (sR (sL (sR (sR (sR (sR bd)))))), .ops (rO (sL (sR (sR (sR (sR (sR bd))))))) (((rO (sL (sR (sR (sR (sR (sR bd))))))).drop 0).take 3), .code (sR (sR (sR (sR (sR (sR bd))))))] (endS PP (resOf PP fid) Q) nk (endS PP (resOf PP fid) Q) f H = T2 (f 0) (f 1) (f 5) (f 9) (f 14) H Q :=
  Eq.trans (b := (fun R : PK => runI PP XX [.ops (rO (sL (sL (sR bd)))) (((rO (sL (sL (sR bd)))).drop 8).take 2), .ops (rO (sL (sL (sR bd)))) (((rO (sL (sL (sR bd)))).drop 10).take 5)] R nk (endS PP (resOf PP fid) Q) f H) (runI PP XX [.ops (rO (sL (sL (sR bd)))) (((rO (sL (sL (sR bd)))).drop 15).take 6), .code (sR (sL (sR bd))), .ops (rO (sL (sL (sR (sR bd))))) (((rO (sL (sL (sR (sR bd))))).drop 0).take 3), .code (sR (sL (sR (sR bd)))), .ops (rO (sL (sL (sR (sR (sR bd)))))) (((rO (sL (sL (sR (sR (sR bd)))))).drop 0).take 30), .code (sR (sL (sR (sR (sR bd))))), .ops (rO (sL (sL (sR (sR (sR (sR bd))))))) (((rO (sL (sL (sR (sR (sR (sR bd))))))).drop 0).take 2), .code (sR (sL (sR (sR (sR (sR bd)))))), .ops (rO (sL (sR (sR (sR (sR (sR bd))))))) (((rO (sL (sR (sR (sR (sR (sR bd))))))).drop 0).take 3), .code (sR (sR (sR (sR (sR (sR bd))))))] (endS PP (resOf PP fid) Q) nk (endS PP (resOf PP fid) Q))) (by kernel_rfl) (Eq.trans (congrArg (fun R : PK => runI PP XX [.ops (rO (sL (sL (sR bd)))) (((rO (sL (sL (sR bd)))).drop 8).take 2), .ops (rO (sL (sL (sR bd)))) (((rO (sL (sL (sR bd)))).drop 10).take 5)] R nk (endS PP (resOf PP fid) Q) f H) (funext fun f => funext fun H => L3 Q f H : (runI PP XX [.ops (rO (sL (sL (sR bd)))) (((rO (sL (sL (sR bd)))).drop 15).take 6), .code (sR (sL (sR bd))), .ops (rO (sL (sL (sR (sR bd))))) (((rO (sL (sL (sR (sR bd))))).drop 0).take 3), .code (sR (sL (sR (sR bd)))), .ops (rO (sL (sL (sR (sR (sR bd)))))) (((rO (sL (sL (sR (sR (sR bd)))))).drop 0).take 30), .code (sR (sL (sR (sR (sR bd))))), .ops (rO (sL (sL (sR (sR (sR (sR bd))))))) (((rO (sL (sL (sR (sR (sR (sR bd))))))).drop 0).take 2), .code (sR (sL (sR (sR (sR (sR bd)))))), .ops (rO (sL (sR (sR (sR (sR (sR bd))))))) (((rO (sL (sR (sR (sR (sR (sR bd))))))).drop 0).take 3), .code (sR (sR (sR (sR (sR (sR bd))))))] (endS PP (resOf PP fid) Q) nk (endS PP (resOf PP fid) Q)) = (fun f H => T3 (f 0) (f 1) (f 5) (f 16) (f 21) H Q))) (by kernel_rfl))
def T1 (a0 a1 a2 : AV) (H : Heap) (Q : HK) : Prop :=
  OS2 (xBox a2 H) fun a5 H =>
  OS2 (xBin PP .eql t_P_replica_Replica a0 .nilp H) fun a8 H =>
  guardS false a8
    (OS2 (xNil a0 H) fun a11 H =>
    OS2 (xFieldAddr PP t_replica_Replica 5 a11 H) fun a12 H =>
    OS2 (xLoad PP t_P_oplog_Log_api_Request a12 H) fun a13 H =>
    OS2 (xBin PP .eql t_P_oplog_Log_api_Request a13 .nilp H) fun a14 H =>
    T2 a0 a1 a5 a8 a14 H Q)
    (T2 a0 a1 a5 a8 undefA H Q)
theorem L1 (Q : HK) (f : FrF) (H : Heap) : runI PP XX [.code bd] (endS PP (resOf PP fid) Q) nk (endS PP (resOf PP fid) Q) f H = T1 (f 0) (f 1) (f 2) H Q :=
  Eq.trans (b := (fun R : PK => runI PP XX [.ops (rO (sL bd)) (((rO (sL bd)).drop 0).take 2), .ops (rO (sL (sL (sR bd)))) (((rO (sL (sL (sR bd)))).drop 0).take 3), .ops (rO (sL (sL (sR bd)))) (((rO (sL (sL (sR bd)))).drop 3).take 5)] R nk (endS PP (resOf PP fid) Q) f H) (runI PP XX [.ops (rO (sL (sL (sR bd)))) (((rO (sL (sL (sR bd)))).drop 8).take 13), .code (sR (sL (sR bd))), .ops (rO (sL (sL (sR (sR bd))))) (((rO (sL (sL (sR (sR bd))))).drop 0).take 3), .code (sR (sL (sR (sR bd)))), .ops (rO (sL (sL (sR (sR (sR bd)))))) (((rO (sL (sL (sR (sR (sR bd)))))).drop 0).take 30), .code (sR (sL (sR (sR (sR bd))))), .ops (rO (sL (sL (sR (sR (sR (sR bd))))))) (((rO (sL (sL (sR (sR (sR (sR bd))))))).drop 0).take 2), .code (sR (sL (sR (sR (sR (sR bd)))))), .ops (rO (sL (sR (sR (sR (sR (sR bd))))))) (((rO (sL (sR (sR (sR (sR (sR bd))))))).drop 0).take 3), .code (sR (sR (sR (sR (sR (sR bd))))))] (endS PP (resOf PP fid) Q) nk (endS PP (resOf PP fid) Q))) (by kernel_rfl) (Eq.trans (congrArg (fun R : PK => runI PP XX [.ops (rO (sL bd)) (((rO (sL bd)).drop 0).take 2), .ops (rO (sL (sL (sR bd)))) (((rO (sL (sL (sR bd)))).drop 0).take 3), .ops (rO (sL (sL (sR bd)))) (((rO (sL (sL (sR bd)))).drop 3).take 5)] R nk (endS PP (resOf PP fid) Q) f H) (funext fun f => funext fun H => L2 Q f H : (runI PP XX [.ops (rO (sL (sL (sR bd)))) (((rO (sL (sL (sR bd)))).drop 8).take 13), .code (sR (sL (sR bd))), .ops (rO (sL (sL (sR (sR bd))))) (((rO (sL (sL (sR (sR bd))))).drop 0).take 3), .code (sR (sL (sR (sR bd)))), .ops (rO (sL (sL (sR (sR (sR bd)))))) (((rO (sL (sL (sR (sR (sR bd)))))).drop 0).take 30), .code (sR (sL (sR (sR (sR bd))))), .ops (rO (sL (sL (sR (sR (sR (sR bd))))))) (((rO (sL (sL (sR (sR (sR (sR bd))))))).drop 0).take 2), .code (sR (sL (sR (sR (sR (sR bd)))))), .ops (rO (sL (sR (sR (sR (sR (sR bd))))))) (((rO (sL (sR (sR (sR (sR (sR bd))))))).drop 0).take 3), .code (sR (sR (sR (sR (sR (sR bd))))))] (endS PP (resOf PP fid) Q) nk (endS PP (resOf PP fid) Q)) = (fun f H => T2 (f 0) (f 1) (f 5) (f 9) (f 14) H Q))) (by kernel_rfl))
/-- What Preplica_Replica_On does. -/
def go (a0 a1 a2 : AV) (H : Heap) (Q : HK) : Prop := T1 a0 a1 a2 H Q
theorem okf : okF PP fid = true := by kernel_rfl
theorem ev (a0 a1 a2 : AV) (H : Heap) (Q : HK) : evP PP XX bd (endS PP (resOf PP fid) Q) nk (endS PP (resOf PP fid) Q) (frF [a0, a1, a2]) H = go a0 a1 a2 H Q :=
  Eq.trans (b := runI PP XX [.code bd] (endS PP (resOf PP fid) Q) nk (endS PP (resOf PP fid) Q) (frF [a0, a1, a2]) H) (by kernel_rfl) (Eq.trans (L1 Q (frF [a0, a1, a2]) H) (by kernel_rfl))
theorem wf (a0 a1 a2 : AV) (H : Heap) (Q : HK) (h : go a0 a1 a2 H Q) {first cap args : List AV} (e : first ++ args ++ cap = [a0, a1, a2]) : WF PP XX (.func fid first cap) args H Q :=
  WF_fn (by kernel_rfl) okf (by rw [e]; kernel_rfl) (by rw [e, ev]; exact h)
end Preplica_Replica_On

def zreq : AV := .agg [.int .i64 0, .int .i64 0, .nils, .nils, .int .i64 0]
def zdig : AV := .agg (List.replicate 32 (.int .u8 0))

theorem r_spoil (y : Int) : runF PP XX YY 1000 (.func 21 [] []) [.nilp, .int .i64 y] ⟨.e, 0⟩ (fun w _ => AV.beq w (.tup [])) = true := by kernel_rfl
theorem r_at (y : Int) : runF PP XX YY 1000 (.func 22 [] []) [.nilp, .int .i64 y] ⟨.e, 0⟩ (fun w _ => AV.beq w (.tup [zreq, .bool false])) = true := by kernel_rfl
theorem r_did (y : Int) : runF PP XX YY 1000 (.func 23 [] []) [.nilp, .int .i64 y] ⟨.e, 0⟩ (fun w _ => AV.beq w (.tup [zreq, .bool false])) = true := by kernel_rfl
theorem r_tick : runF PP XX YY 1000 (.func 24 [] []) [.nilp] ⟨.e, 0⟩ (fun w _ => AV.beq w .nils) = true := by kernel_rfl
theorem r_state : runF PP XX YY 1000 (.func 15 [] []) [.nilp] ⟨.e, 0⟩ (fun w _ => AV.beq w (.int .i64 0)) = true := by kernel_rfl
theorem r_view : runF PP XX YY 1000 (.func 12 [] []) [.nilp] ⟨.e, 0⟩ (fun w _ => AV.beq w (.int .i64 0)) = true := by kernel_rfl
theorem r_commit : runF PP XX YY 1000 (.func 13 [] []) [.nilp] ⟨.e, 0⟩ (fun w _ => AV.beq w (.int .i64 0)) = true := by kernel_rfl
theorem r_done : runF PP XX YY 1000 (.func 18 [] []) [.nilp] ⟨.e, 0⟩ (fun w _ => AV.beq w (.int .i64 0)) = true := by kernel_rfl
theorem r_last : runF PP XX YY 1000 (.func 14 [] []) [.nilp] ⟨.e, 0⟩ (fun w _ => AV.beq w (.int .i64 0)) = true := by kernel_rfl
theorem r_store : runF PP XX YY 1000 (.func 17 [] []) [.nilp] ⟨.e, 0⟩ (fun w _ => AV.beq w .nilp) = true := by kernel_rfl
theorem r_digest : runF PP XX YY 1000 (.func 11 [] []) [.nilp] ⟨.e, 0⟩ (fun w _ => AV.beq w zdig) = true := by kernel_rfl
theorem r_same : runF PP XX YY 1000 (.func 25 [] []) [zreq, zreq] ⟨.e, 0⟩ (fun w _ => AV.beq w (.bool true)) = true := by kernel_rfl

theorem on_nil (x : Int) {ms : List AV} (hm : allOne ms = true) (H : Heap) (Q : HK) (h : Q .nils (H.add (ofRow ms))) : WF PP XX (.func n_Preplica_Replica_On [] []) [.nilp, .int .i64 x, .agg ms] H Q := by
  refine Preplica_Replica_On.wf _ _ _ H Q ?_ rfl
  unfold Preplica_Replica_On.go Preplica_Replica_On.T1
  rw [box_agg hm, OS2_some]
  exact h

theorem nobody_wf (x y : Int) {ms : List AV} (hm : allOne ms = true) (hl : ms.length = 55) (hlives : ∀ H (Q : HK), Q (.bool true) H → WF PP XX (.func n_pianolalaw23_lives [] []) [] H Q) (H : Heap) :
    WF PP XX (.func n_pianolalaw23_ReplicaNobody [] []) [.int .i64 x, .agg ms, .int .i64 y] H fun v _ => v = .bool true := by
  refine pianolalaw23_ReplicaNobody.wf _ _ _ H _ ?_ rfl
  unfold pianolalaw23_ReplicaNobody.go pianolalaw23_ReplicaNobody.T1
  rw [box_agg hm, OS2_some]
  have hg0 : (H.add (ofRow ms)).get H.next = some (ofRow ms) := get_add_self _ _
  have hn0 : (H.add (ofRow ms)).next = H.next + 1 := rfl
  generalize H.add (ofRow ms) = H0 at hg0 hn0 ⊢
  refine WF_closed yok rfl (r_spoil y) rfl rfl ?_
  refine WF_closed yok rfl (r_at y) rfl rfl ?_
  rw [show xExtract (.tup [zreq, .bool false]) 0 H0 = some (zreq, H0) from rfl, OS2_some, show xExtract (.tup [zreq, .bool false]) 1 H0 = some (.bool false, H0) from rfl, OS2_some]
  rw [show xAlloc PP t_api_Request H0 = some (.ptr H0.next 0, H0.add (ofRow zreq.cells)) by kernel_rfl, OS2_some]
  have hg1 : (H0.add (ofRow zreq.cells)).get H.next = some (ofRow ms) := by rw [get_add_ne _ _ (by omega)]; exact hg0
  have hg2 : (H0.add (ofRow zreq.cells)).get H0.next = some (ofRow zreq.cells) := get_add_self _ _
  have hn1 : (H0.add (ofRow zreq.cells)).next = H0.next + 1 := rfl
  generalize H0.add (ofRow zreq.cells) = H1 at hg1 hg2 hn1 ⊢
  rw [store_own (o' := ofRow zreq.cells) hg2 (by kernel_rfl), OS2_some]
  have hg3 : (H1.put H0.next (ofRow zreq.cells)).get H.next = some (ofRow ms) := by rw [get_put_ne _ _ (by omega)]; exact hg1
  have hg4 : (H1.put H0.next (ofRow zreq.cells)).get H0.next = some (ofRow zreq.cells) := get_put_self _ _ _
  have hn2 : (H1.put H0.next (ofRow zreq.cells)).next = H0.next + 1 := hn1
  generalize H1.put H0.next (ofRow zreq.cells) = H2 at hg3 hg4 hn2 ⊢
  clear hg1 hg2
  refine WF_closed yok rfl (r_did y) rfl rfl ?_
  rw [show xExtract (.tup [zreq, .bool false]) 0 H2 = some (zreq, H2) from rfl, OS2_some, show xExtract (.tup [zreq, .bool false]) 1 H2 = some (.bool false, H2) from rfl, OS2_some]
  rw [show xAlloc PP t_api_Request H2 = some (.ptr H2.next 0, H2.add (ofRow zreq.cells)) by kernel_rfl, OS2_some]
  have hg5 : (H2.add (ofRow zreq.cells)).get H.next = some (ofRow ms) := by rw [get_add_ne _ _ (by omega)]; exact hg3
  have hg6 : (H2.add (ofRow zreq.cells)).get H0.next = some (ofRow zreq.cells) := by rw [get_add_ne _ _ (by omega)]; exact hg4
  have hg7 : (H2.add (ofRow zreq.cells)).get H2.next = some (ofRow zreq.cells) := get_add_self _ _
  have hn3 : (H2.add (ofRow zreq.cells)).next = H2.next + 1 := rfl
  generalize H2.add (ofRow zreq.cells) = H3 at hg5 hg6 hg7 hn3 ⊢
  rw [store_own (o' := ofRow zreq.cells) hg7 (by kernel_rfl), OS2_some]
  have hg8 : (H3.put H2.next (ofRow zreq.cells)).get H.next = some (ofRow ms) := by rw [get_put_ne _ _ (by omega)]; exact hg5
  have hg9 : (H3.put H2.next (ofRow zreq.cells)).get H0.next = some (ofRow zreq.cells) := by rw [get_put_ne _ _ (by omega)]; exact hg6
  have hg10 : (H3.put H2.next (ofRow zreq.cells)).get H2.next = some (ofRow zreq.cells) := get_put_self _ _ _
  have hn4 : (H3.put H2.next (ofRow zreq.cells)).next = H2.next + 1 := hn3
  generalize H3.put H2.next (ofRow zreq.cells) = H4 at hg8 hg9 hg10 hn4 ⊢
  refine hlives _ _ ?_
  rw [guardS_tt, load_own hg8 (loadObj_row (by kernel_rfl) (by rw [hl]; kernel_rfl)), OS2_some]
  refine on_nil x hm _ _ ?_
  have ha : (H4.add (ofRow ms)).get H0.next = some (ofRow zreq.cells) := by rw [get_add_ne _ _ (by omega)]; exact hg9
  have hb : (H4.add (ofRow ms)).get H2.next = some (ofRow zreq.cells) := by rw [get_add_ne _ _ (by omega)]; exact hg10
  generalize H4.add (ofRow ms) = H5 at ha hb ⊢
  have el : xLen PP t_S_api_Out .nils H5 = some (.int .i64 0, H5) := by kernel_rfl
  have ei : xBin PP .eql t_i64 (.int .i64 0) (.int .i64 0) H5 = some (.bool true, H5) := by kernel_rfl
  have ep : xBin PP .eql t_P_store_Store .nilp .nilp H5 = some (.bool true, H5) := by kernel_rfl
  have eb : xBuild PP t_A32_u8 [] H5 = some (zdig, H5) := by kernel_rfl
  have ed : xBin PP .eql t_A32_u8 zdig zdig H5 = some (.bool true, H5) := by kernel_rfl
  rw [el, OS2_some, ei, OS2_some]
  unfold pianolalaw23_ReplicaNobody.T2
  rw [xPick_t, OS2_some, guardS_tt]
  refine WF_closed yok rfl r_tick rfl rfl ?_
  rw [el, OS2_some, ei, OS2_some]
  unfold pianolalaw23_ReplicaNobody.T3
  rw [xPick_t, OS2_some, guardS_tt]
  refine WF_closed yok rfl r_state rfl rfl ?_
  rw [ei, OS2_some]
  unfold pianolalaw23_ReplicaNobody.T4
  rw [xPick_t, OS2_some, guardS_tt]
  refine WF_closed yok rfl r_view rfl rfl ?_
  rw [ei, OS2_some]
  unfold pianolalaw23_ReplicaNobody.T5
  rw [xPick_t, OS2_some, guardS_tt]
  refine WF_closed yok rfl r_commit rfl rfl ?_
  rw [ei, OS2_some]
  unfold pianolalaw23_ReplicaNobody.T6
  rw [xPick_t, OS2_some, guardS_tt]
  refine WF_closed yok rfl r_done rfl rfl ?_
  rw [ei, OS2_some]
  unfold pianolalaw23_ReplicaNobody.T7
  rw [xPick_t, OS2_some, guardS_tt]
  refine WF_closed yok rfl r_last rfl rfl ?_
  rw [ei, OS2_some]
  unfold pianolalaw23_ReplicaNobody.T8
  rw [xPick_t, OS2_some, guardS_tt, xNotF, OS2_some]
  unfold pianolalaw23_ReplicaNobody.T9
  rw [xPick_t, OS2_some, guardS_tt, xNotF, OS2_some]
  unfold pianolalaw23_ReplicaNobody.T10
  rw [xPick_t, OS2_some, guardS_tt]
  rw [load_own ha (loadObj_row (l := zreq.cells) (by kernel_rfl) (by kernel_rfl)), OS2_some]
  rw [load_own hb (loadObj_row (l := zreq.cells) (by kernel_rfl) (by kernel_rfl)), OS2_some]
  refine WF_closed yok rfl r_same rfl rfl ?_
  unfold pianolalaw23_ReplicaNobody.T11
  rw [xPick_t, OS2_some, guardS_tt]
  refine WF_closed yok rfl r_store rfl rfl ?_
  rw [ep, OS2_some]
  unfold pianolalaw23_ReplicaNobody.T12
  rw [xPick_t, OS2_some, guardS_tt]
  refine WF_closed yok rfl r_digest rfl rfl ?_
  rw [eb, OS2_some, ed, OS2_some]
  unfold pianolalaw23_ReplicaNobody.T13
  rw [xPick_t, OS2_some]
end Go.AM.S23
