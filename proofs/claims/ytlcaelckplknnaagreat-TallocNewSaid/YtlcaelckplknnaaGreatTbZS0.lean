/- What functions of this translation do, in plain words of SX; each held by the kernel against the evaluator. Written by a program. -/
import Derived.Test.YtlcaelckplknnaaGreatTbZIds
set_option linter.unusedVariables false
set_option linter.unusedSimpArgs false
set_option linter.unusedVariables false
set_option maxRecDepth 100000
namespace Go.TB
open Go Go.SX

/-- tumbrel/tumbrellaw13.TallocNew -/
def S.law13_TallocNew (p0_0 : Int) (p0_1 : Int) (p0_2 : Int) (p0_3 : Int) (p0_4 : Int) (p0_5 : Int) (p1 : Int) (p2 : Int) (R : Value → M) : M :=
  al 34 [(.int .i64 p0_0), (.int .i64 p0_1), (.int .i64 p0_2), (.int .i64 p0_3), (.int .i64 p0_4), (.int .u64 p0_5)] (fun (b0 : Addr) => 
  ld (.ki .i64) (Addr.add b0 0) (fun (x1 : Int) => 
  ld (.ki .i64) (Addr.add b0 1) (fun (x2 : Int) => 
  ld (.ki .i64) (Addr.add b0 2) (fun (x3 : Int) => 
  ld (.ki .i64) (Addr.add b0 3) (fun (x4 : Int) => 
  ld (.ki .i64) (Addr.add b0 4) (fun (x5 : Int) => 
  ld (.ki .u64) (Addr.add b0 5) (fun (x6 : Int) => 
  cl prog N.law13_Ours [(.agg #[(.int .i64 x1), (.int .i64 x2), (.int .i64 x3), (.int .i64 x4), (.int .i64 x5), (.int .u64 x6)])] (fun (v8 : Value) => 
  xd (.ki .i64) (fun (x9 : Int) => xd (.ki .i64) (fun (x10 : Int) => xd (.ki .u64) (fun (x11 : Int) => xd (.ki .i64) (fun (x12 : Int) => xd (.ki .i64) (fun (x13 : Int) => xd (.ki .i64) (fun (x14 : Int) => rq (v8 = (.agg #[(.int .i64 x9), (.int .i64 x10), (.int .u64 x11), (.int .i64 x12), (.int .i64 x13), (.int .i64 x14)])) <|
  cl prog N.talloc_New [(.agg #[(.int .i64 x9), (.int .i64 x10), (.int .u64 x11), (.int .i64 x12), (.int .i64 x13), (.int .i64 x14)])] (fun (v16 : Value) => 
  xd .kp (fun (x17 : Option Addr) => xd (.ki .i64) (fun (x18 : Int) => rq (v16 = (.tuple #[(.pointer x17), (.int .i64 x18)])) <|
  ld (.ki .i64) (Addr.add b0 0) (fun (x19 : Int) => 
  ld (.ki .i64) (Addr.add b0 1) (fun (x20 : Int) => 
  ld (.ki .i64) (Addr.add b0 2) (fun (x21 : Int) => 
  cl prog N.ref13_May [(.int .i64 x19), (.int .i64 x20), (.int .i64 x21)] (fun (v23 : Value) => 
  xd .kb (fun (x24 : Bool) => rq (v23 = (.bool x24)) <|
  jn (σ := (Bool × Unit))
  (fun (d25 : (Bool × Unit)) => 
   br d25.1
    (R (.bool false))
    (jn (σ := Unit)
    (fun (d26 : Unit) => 
     cl prog N.talloc_Pool_Malloc [(.pointer none), (.int .i64 p1), (.int .i64 p2)] (fun (v28 : Value) => 
     xd .kp (fun (x29 : Option Addr) => xd (.ki .i64) (fun (x30 : Int) => rq (v28 = (.tuple #[(.pointer x29), (.int .i64 x30)])) <|
     cl prog N.talloc_Pool_Free [(.pointer none), (.int .i64 p1), (.int .i64 p2)] (fun (v32 : Value) => 
     xd .kp (fun (x33 : Option Addr) => xd (.ki .i64) (fun (x34 : Int) => rq (v32 = (.tuple #[(.pointer x33), (.int .i64 x34)])) <|
     br (eqI x30 2)
      (br (eqI x34 2)
       (cl prog N.talloc_Pool_Region [(.pointer none)] (fun (v36 : Value) => 
       xd .kp (fun (x37 : Option Addr) => rq (v36 = (.pointer x37)) <|
       br (isN x37)
        (cl prog N.talloc_Pool_Ledger [(.pointer none)] (fun (v39 : Value) => 
        xd .kp (fun (x40 : Option Addr) => rq (v39 = (.pointer x40)) <|
        br (isN x40)
         (cl prog N.talloc_Pool_Mail [(.pointer none)] (fun (v42 : Value) => 
         xd .kp (fun (x43 : Option Addr) => rq (v42 = (.pointer x43)) <|
         br (isN x43)
          (cl prog N.talloc_Pool_Quar [(.pointer none), (.int .i64 p1)] (fun (v45 : Value) => 
          xd .kp (fun (x46 : Option Addr) => rq (v45 = (.pointer x46)) <|
          br (isN x46)
           (cl prog N.talloc_Pool_Now [(.pointer none)] (fun (v48 : Value) => 
           xd (.ki .i64) (fun (x49 : Int) => rq (v48 = (.int .i64 x49)) <|
           br (eqI x49 0)
            (cl prog N.talloc_Pool_Check [(.pointer none)] (fun (v51 : Value) => 
            xd (.ki .i64) (fun (x52 : Int) => rq (v51 = (.int .i64 x52)) <|
            br (eqI x52 2)
             (cl prog N.talloc_Task_Step [(.pointer none)] (fun (v54 : Value) => 
             xd .kb (fun (x55 : Bool) => rq (v54 = (.bool x55)) <|
             br x55
              (cl prog N.talloc_Task_Done [(.pointer none)] (fun (v57 : Value) => 
              xd .kb (fun (x58 : Bool) => rq (v57 = (.bool x58)) <|
              br x58
               (cl prog N.talloc_Task_At [(.pointer none)] (fun (v60 : Value) => 
               xd (.ki .i64) (fun (x61 : Int) => rq (v60 = (.int .i64 x61)) <|
               br (eqI x61 0)
                (cl prog N.talloc_Task_Fault [(.pointer none)] (fun (v63 : Value) => 
                xd (.ki .i64) (fun (x64 : Int) => rq (v63 = (.int .i64 x64)) <|
                br (eqI x64 0)
                 (cl prog N.talloc_Task_Moment [(.pointer none)] (fun (v66 : Value) => 
                 xd (.ki .i64) (fun (x67 : Int) => rq (v66 = (.int .i64 x67)) <|
                 br (eqI x67 0)
                  (cl prog N.law13_awake [] (fun (v69 : Value) => 
                  xd .kb (fun (x70 : Bool) => rq (v69 = (.bool x70)) <|
                  R (.bool x70))))
                  (R (.bool false)))))
                 (R (.bool false)))))
                (R (.bool false)))))
               (R (.bool false)))))
              (R (.bool false)))))
             (R (.bool false)))))
            (R (.bool false)))))
           (R (.bool false)))))
          (R (.bool false)))))
         (R (.bool false)))))
        (R (.bool false)))))
       (R (.bool false)))
      (R (.bool false)))))))))
    (fun j71 =>
     br x24
      (jn (σ := (Bool × Unit))
      (fun (d72 : (Bool × Unit)) => 
       cl prog N.talloc_Pool_Malloc [(.pointer x17), (.int .i64 p1), (.int .i64 p2)] (fun (v74 : Value) => 
       xd .kp (fun (x75 : Option Addr) => xd (.ki .i64) (fun (x76 : Int) => rq (v74 = (.tuple #[(.pointer x75), (.int .i64 x76)])) <|
       cl prog N.talloc_Pool_Free [(.pointer x17), (.int .i64 p1), (.int .i64 p2)] (fun (v78 : Value) => 
       xd .kp (fun (x79 : Option Addr) => xd (.ki .i64) (fun (x80 : Int) => rq (v78 = (.tuple #[(.pointer x79), (.int .i64 x80)])) <|
       jn (σ := (Bool × Unit))
       (fun (d81 : (Bool × Unit)) => 
        br d81.1
         (R (.bool false))
         (j71 ()))
       (fun j82 =>
        br d72.1
         (br (leI 1 p2)
          (br (notB (eqBl (eqI x76 0) (leI p2 4096)))
           (j82 (true, ()))
           (br (notB (eqBl (eqI x80 0) d72.1))
            (j82 (true, ()))
            (cl prog N.talloc_Pool_Quar [(.pointer x17), (.int .i64 p1)] (fun (v84 : Value) => 
            xd .kp (fun (x85 : Option Addr) => rq (v84 = (.pointer x85)) <|
            j82 ((notB (eqBl (notB (isN x85)) d72.1)), ()))))))
          (br (notB (eqBl (eqI x76 0) false))
           (j82 (true, ()))
           (br (notB (eqBl (eqI x80 0) d72.1))
            (j82 (true, ()))
            (cl prog N.talloc_Pool_Quar [(.pointer x17), (.int .i64 p1)] (fun (v87 : Value) => 
            xd .kp (fun (x88 : Option Addr) => rq (v87 = (.pointer x88)) <|
            j82 ((notB (eqBl (notB (isN x88)) d72.1)), ())))))))
         (br (notB (eqBl (eqI x76 0) false))
          (j82 (true, ()))
          (br (notB (eqBl (eqI x80 0) d72.1))
           (j82 (true, ()))
           (cl prog N.talloc_Pool_Quar [(.pointer x17), (.int .i64 p1)] (fun (v90 : Value) => 
           xd .kp (fun (x91 : Option Addr) => rq (v90 = (.pointer x91)) <|
           j82 ((notB (eqBl (notB (isN x91)) d72.1)), ()))))))))))))))
      (fun j92 =>
       br (leI 0 p1)
        (ld (.ki .i64) (Addr.add b0 2) (fun (x93 : Int) => 
        j92 ((ltI p1 x93), ())))
        (j92 (false, ()))))
      (j71 ()))))
  (fun j94 =>
   br (notB (eqBl (notB (isN x17)) x24))
    (F)
    (br (notB (eqBl (eqI x18 0) x24))
     (F)
     (br (notB x24)
      (j94 ((neI x18 1), ()))
      (j94 (false, ())))))))))))))))))))))))))))
theorem T.law13_TallocNew (p0_0 : Int) (p0_1 : Int) (p0_2 : Int) (p0_3 : Int) (p0_4 : Int) (p0_5 : Int) (p1 : Int) (p2 : Int) (R : Value → M) (w : World) (h : S.law13_TallocNew p0_0 p0_1 p0_2 p0_3 p0_4 p0_5 p1 p2 R w) : cl prog N.law13_TallocNew [(.agg #[(.int .i64 p0_0), (.int .i64 p0_1), (.int .i64 p0_2), (.int .i64 p0_3), (.int .i64 p0_4), (.int .u64 p0_5)]), (.int .i64 p1), (.int .i64 p2)] R w :=
  wpF_sound noNum_prog mixed_prog Go.Proofs.Tryz.func4 (.sq .nd (.sq .nd (.sq .nd (.sq (.jn [(51, .kb)] .nd .nd) (.jn [] (.sq .nd (.cd (.jn [(10, .kb)] .nd (.sq .nd (.sq .nd (.jn [(100, .kb)] .nd .nd)))) .nd)) .nd))))) (by kernel_rfl) (Eq.mp (by kernel_rfl) h)

/-- tumbrel/talloc.New -/
def S.talloc_New (p0_0 : Int) (p0_1 : Int) (p0_2 : Int) (p0_3 : Int) (p0_4 : Int) (p0_5 : Int) (R : Value → M) : M :=
  al 30 [(.int .i64 p0_0), (.int .i64 p0_1), (.int .u64 p0_2), (.int .i64 p0_3), (.int .i64 p0_4), (.int .i64 p0_5)] (fun (b0 : Addr) => 
  ld (.ki .i64) (Addr.add (Addr.add b0 0) 0) (fun (x1 : Int) => 
  ld (.ki .i64) (Addr.add (Addr.add b0 0) 1) (fun (x2 : Int) => 
  ld (.ki .u64) (Addr.add (Addr.add b0 0) 2) (fun (x3 : Int) => 
  cl prog N.region_New [(.agg #[(.int .i64 x1), (.int .i64 x2), (.int .u64 x3)])] (fun (v5 : Value) => 
  xd .kp (fun (x6 : Option Addr) => xd (.ki .i64) (fun (x7 : Int) => rq (v5 = (.tuple #[(.pointer x6), (.int .i64 x7)])) <|
  jn (σ := (Bool × Unit))
  (fun (d8 : (Bool × Unit)) => 
   br d8.1
    (R (.tuple #[(.pointer none), (.int .i64 1)]))
    (dr <| ld (.ki .i64) (Addr.add b0 0) (fun (x9 : Int) => 
    ld (.ki .i64) (Addr.add b0 1) (fun (x10 : Int) => 
    ld (.ki .u64) (Addr.add b0 2) (fun (x11 : Int) => 
    ld (.ki .i64) (Addr.add b0 3) (fun (x12 : Int) => 
    ld (.ki .i64) (Addr.add b0 4) (fun (x13 : Int) => 
    ld (.ki .i64) (Addr.add b0 5) (fun (x14 : Int) => 
    ld (.ki .i64) (Addr.add b0 3) (fun (x15 : Int) => 
    ld (.ki .i64) (Addr.add b0 4) (fun (x16 : Int) => 
    (fun w17 => (cl prog N.fault_New [(.pointer x6)] (fun (v18 : Value) => 
    xd .kp (fun (x19 : Option Addr) => rq (v18 = (.pointer x19)) <|
    kp [(.cells (Addr.add b0 4) 1), (.cells (Addr.add b0 3) 1), (.cells b0 6)] w17 <|
    (fun w20 => (cl prog N.remote_New [(.int .i64 x15), (.int .i64 x16)] (fun (v21 : Value) => 
    xd .kp (fun (x22 : Option Addr) => rq (v21 = (.pointer x22)) <|
    kp [(.cells b0 6)] w20 <|
    al 90 [(.int .i64 x9), (.int .i64 x10), (.int .u64 x11), (.int .i64 x12), (.int .i64 x13), (.int .i64 x14), (.pointer x6), (.pointer x19), (.pointer x22), (.slice none 0 0), (.int .i64 0)] (fun (b23 : Addr) => 
    ld (.ki .i64) (Addr.add b0 3) (fun (x24 : Int) => 
    lp (σ := (Int × Unit))
    (fun d25 j26 =>
     br (ltI d25.1 x24)
      (dr <| ld .ks (Addr.add b23 9) (fun (x27 : Sl) => 
      ld (.ki .i64) (Addr.add b0 5) (fun (x28 : Int) => 
      (fun w29 => (cl prog N.quar_New [(.int .i64 x28)] (fun (v30 : Value) => 
      xd .kp (fun (x31 : Option Addr) => rq (v30 = (.pointer x31)) <|
      kp [(.cells (Addr.add b23 9) 1)] w29 <|
      al 55 [(.pointer x31)] (fun (b32 : Addr) => 
      apd 55 1 8 [(.pointer none)] ⟨x27.a, x27.len, x27.cap⟩ ⟨(some b32), 1, 1⟩ (fun (r34 : Sl) => 
      st (Addr.add b23 9) (.slice r34.a r34.len r34.cap) <|
      j26 ((IntKind.wrap .i64 (d25.1 + 1)), ())))))) w29))))
      (R (.tuple #[(.pointer (some b23)), (.int .i64 0)]))) (0, ())))))) w20)))) w17)))))))))))
  (fun j36 =>
   br (neI x7 0)
    (j36 (true, ()))
    (ld (.ki .i64) (Addr.add b0 3) (fun (x37 : Int) => 
    br (ltI x37 1)
     (j36 (true, ()))
     (ld (.ki .i64) (Addr.add b0 3) (fun (x38 : Int) => 
     j36 ((ltI 64 x38), ())))))))))))))
theorem T.talloc_New (p0_0 : Int) (p0_1 : Int) (p0_2 : Int) (p0_3 : Int) (p0_4 : Int) (p0_5 : Int) (R : Value → M) (w : World) (h : S.talloc_New p0_0 p0_1 p0_2 p0_3 p0_4 p0_5 R w) : cl prog N.talloc_New [(.agg #[(.int .i64 p0_0), (.int .i64 p0_1), (.int .u64 p0_2), (.int .i64 p0_3), (.int .i64 p0_4), (.int .i64 p0_5)])] R w :=
  wpF_sound noNum_prog mixed_prog Go.Proofs.Tryz.func17 (.sq .nd (.sq .nd (.sq (.jn [(24, .kb)] .nd .nd) (.sq .nd (.sq (.sq .nd (.bl (.lp [(38, .ki .i64)] .nd))) .nd))))) (by kernel_rfl) (Eq.mp (by kernel_rfl) h)

/-- tumbrel/tumbrellaw13.Ours -/
def S.law13_Ours (p0_0 : Int) (p0_1 : Int) (p0_2 : Int) (p0_3 : Int) (p0_4 : Int) (p0_5 : Int) (R : Value → M) : M :=
  al 34 [(.int .i64 p0_0), (.int .i64 p0_1), (.int .i64 p0_2), (.int .i64 p0_3), (.int .i64 p0_4), (.int .u64 p0_5)] (fun (b0 : Addr) => 
  al 30 [(.int .i64 0), (.int .i64 0), (.int .u64 0), (.int .i64 0), (.int .i64 0), (.int .i64 0)] (fun (b1 : Addr) => 
  ld (.ki .i64) (Addr.add b0 0) (fun (x2 : Int) => 
  ld (.ki .i64) (Addr.add b0 1) (fun (x3 : Int) => 
  ld (.ki .u64) (Addr.add b0 5) (fun (x4 : Int) => 
  ld (.ki .i64) (Addr.add b0 2) (fun (x5 : Int) => 
  ld (.ki .i64) (Addr.add b0 3) (fun (x6 : Int) => 
  ld (.ki .i64) (Addr.add b0 4) (fun (x7 : Int) => 
  stN b1 [(.int .i64 x2), (.int .i64 x3), (.int .u64 x4), (.int .i64 x5), (.int .i64 x6), (.int .i64 x7)] <|
  ld (.ki .i64) (Addr.add b1 0) (fun (x9 : Int) => 
  ld (.ki .i64) (Addr.add b1 1) (fun (x10 : Int) => 
  ld (.ki .u64) (Addr.add b1 2) (fun (x11 : Int) => 
  ld (.ki .i64) (Addr.add b1 3) (fun (x12 : Int) => 
  ld (.ki .i64) (Addr.add b1 4) (fun (x13 : Int) => 
  ld (.ki .i64) (Addr.add b1 5) (fun (x14 : Int) => 
  R (.agg #[(.int .i64 x9), (.int .i64 x10), (.int .u64 x11), (.int .i64 x12), (.int .i64 x13), (.int .i64 x14)])))))))))))))))
theorem T.law13_Ours (p0_0 : Int) (p0_1 : Int) (p0_2 : Int) (p0_3 : Int) (p0_4 : Int) (p0_5 : Int) (R : Value → M) (w : World) (h : S.law13_Ours p0_0 p0_1 p0_2 p0_3 p0_4 p0_5 R w) : cl prog N.law13_Ours [(.agg #[(.int .i64 p0_0), (.int .i64 p0_1), (.int .i64 p0_2), (.int .i64 p0_3), (.int .i64 p0_4), (.int .u64 p0_5)])] R w :=
  wpF_sound noNum_prog mixed_prog Go.Proofs.Tryz.func18 .nd (by kernel_rfl) (Eq.mp (by kernel_rfl) h)

/-- tumbrel/tumbrelref13.May -/
def S.ref13_May (p0 : Int) (p1 : Int) (p2 : Int) (R : Value → M) : M :=
  cl prog N.ref09_May [(.int .i64 p0), (.int .i64 p1)] (fun (v1 : Value) => 
  xd .kb (fun (x2 : Bool) => rq (v1 = (.bool x2)) <|
  br x2
   (br (leI 1 p2)
    (R (.bool (leI p2 64)))
    (R (.bool false)))
   (R (.bool false))))
theorem T.ref13_May (p0 : Int) (p1 : Int) (p2 : Int) (R : Value → M) (w : World) (h : S.ref13_May p0 p1 p2 R w) : cl prog N.ref13_May [(.int .i64 p0), (.int .i64 p1), (.int .i64 p2)] R w :=
  wpF_sound noNum_prog mixed_prog Go.Proofs.Tryz.func19 .nd (by kernel_rfl) (Eq.mp (by kernel_rfl) h)

/-- (*tumbrel/talloc.Pool).Malloc -/
def S.talloc_Pool_Malloc (p0 : Option Addr) (p1 : Int) (p2 : Int) (R : Value → M) : M :=
  br (isN p0)
   (R (.tuple #[(.pointer none), (.int .i64 2)]))
   (jn (σ := (Bool × Unit))
   (fun (d0 : (Bool × Unit)) => 
    br d0.1
     (R (.tuple #[(.pointer none), (.int .i64 1)]))
     (al 92 [(.pointer p0), (.int .i64 p1), (.int .i64 p2), .nilFunc, (.int .i64 (-1)), (.int .i64 0), (.int .i64 0)] (fun (b1 : Addr) => 
     st (Addr.add b1 3) (.func (.func N.talloc_Task_drain) #[(.pointer (some b1))] #[]) <|
     R (.tuple #[(.pointer (some b1)), (.int .i64 0)]))))
   (fun j3 =>
    cl prog N.talloc_Pool_in [(.pointer p0), (.int .i64 p1)] (fun (v5 : Value) => 
    xd .kb (fun (x6 : Bool) => rq (v5 = (.bool x6)) <|
    br (notB x6)
     (j3 (true, ()))
     (br (ltI p2 1)
      (j3 (true, ()))
      (j3 ((ltI 4096 p2), ())))))))
theorem T.talloc_Pool_Malloc (p0 : Option Addr) (p1 : Int) (p2 : Int) (R : Value → M) (w : World) (h : S.talloc_Pool_Malloc p0 p1 p2 R w) : cl prog N.talloc_Pool_Malloc [(.pointer p0), (.int .i64 p1), (.int .i64 p2)] R w :=
  wpF_sound noNum_prog mixed_prog Go.Proofs.Tryz.func20 (.sq .nd (.sq (.bl (.sq .nd (.cd .nd (.jn [(12, .kb)] .nd .nd)))) .nd)) (by kernel_rfl) (Eq.mp (by kernel_rfl) h)

/-- (*tumbrel/talloc.Pool).Free -/
def S.talloc_Pool_Free (p0 : Option Addr) (p1 : Int) (p2 : Int) (R : Value → M) : M :=
  br (isN p0)
   (R (.tuple #[(.pointer none), (.int .i64 2)]))
   (cl prog N.talloc_Pool_in [(.pointer p0), (.int .i64 p1)] (fun (v1 : Value) => 
   xd .kb (fun (x2 : Bool) => rq (v1 = (.bool x2)) <|
   br (notB x2)
    (R (.tuple #[(.pointer none), (.int .i64 1)]))
    (al 92 [(.pointer p0), (.int .i64 p1), (.int .i64 p2), .nilFunc, (.int .i64 (-1)), (.int .i64 0), (.int .i64 0)] (fun (b3 : Addr) => 
    st (Addr.add b3 3) (.func (.func N.talloc_Task_look) #[(.pointer (some b3))] #[]) <|
    R (.tuple #[(.pointer (some b3)), (.int .i64 0)]))))))
theorem T.talloc_Pool_Free (p0 : Option Addr) (p1 : Int) (p2 : Int) (R : Value → M) (w : World) (h : S.talloc_Pool_Free p0 p1 p2 R w) : cl prog N.talloc_Pool_Free [(.pointer p0), (.int .i64 p1), (.int .i64 p2)] R w :=
  wpF_sound noNum_prog mixed_prog Go.Proofs.Tryz.func21 .nd (by kernel_rfl) (Eq.mp (by kernel_rfl) h)

/-- (*tumbrel/talloc.Pool).Quar -/
def S.talloc_Pool_Quar (p0 : Option Addr) (p1 : Int) (R : Value → M) : M :=
  cl prog N.talloc_Pool_in [(.pointer p0), (.int .i64 p1)] (fun (v1 : Value) => 
  xd .kb (fun (x2 : Bool) => rq (v1 = (.bool x2)) <|
  br (notB x2)
   (R (.pointer none))
   (nn p0 (fun (a3 : Addr) => ld .ks (Addr.add a3 9) (fun (x4 : Sl) => 
   ix x4.a x4.len p1 1 (fun (a5 : Addr) => 
   ld .kp a5 (fun (x6 : Option Addr) => 
   R (.pointer x6))))))))
theorem T.talloc_Pool_Quar (p0 : Option Addr) (p1 : Int) (R : Value → M) (w : World) (h : S.talloc_Pool_Quar p0 p1 R w) : cl prog N.talloc_Pool_Quar [(.pointer p0), (.int .i64 p1)] R w :=
  wpF_sound noNum_prog mixed_prog Go.Proofs.Tryz.func22 .nd (by kernel_rfl) (Eq.mp (by kernel_rfl) h)

/-- tumbrel/region.New -/
def S.region_New (p0_0 : Int) (p0_1 : Int) (p0_2 : Int) (R : Value → M) : M :=
  al 28 [(.int .i64 p0_0), (.int .i64 p0_1), (.int .u64 p0_2)] (fun (b0 : Addr) => 
  jn (σ := (Bool × Unit))
  (fun (d1 : (Bool × Unit)) => 
   br d1.1
    (R (.tuple #[(.pointer none), (.int .i64 1)]))
    (ld (.ki .i64) (Addr.add b0 0) (fun (x2 : Int) => 
    ld (.ki .i64) (Addr.add b0 1) (fun (x3 : Int) => 
    cl prog N.arena_New [(.int .i64 (IntKind.wrap .i64 (x2 + x3)))] (fun (v5 : Value) => 
    xd .kp (fun (x6 : Option Addr) => rq (v5 = (.pointer x6)) <|
    ld (.ki .u64) (Addr.add b0 2) (fun (x7 : Int) => 
    cl prog N.link_New [(.int .u64 x7)] (fun (v9 : Value) => 
    xd (.ki .u64) (fun (x10 : Int) => rq (v9 = (.agg #[(.int .u64 x10)])) <|
    al 110 [(.int .u64 0)] (fun (b11 : Addr) => 
    stN b11 [(.int .u64 x10)] <|
    dr <| ld (.ki .i64) (Addr.add b0 0) (fun (x13 : Int) => 
    ld (.ki .i64) (Addr.add b0 1) (fun (x14 : Int) => 
    ld (.ki .u64) (Addr.add b0 2) (fun (x15 : Int) => 
    ld (.ki .i64) (Addr.add b0 0) (fun (x16 : Int) => 
    ld (.ki .i64) (Addr.add b0 1) (fun (x17 : Int) => 
    ld (.ki .u64) (Addr.add b11 0) (fun (x18 : Int) => 
    ld (.ki .u64) (Addr.add b11 0) (fun (x19 : Int) => 
    (fun w20 => ((fun w21 => (cl prog N.pages_New [(.int .i64 (IntKind.wrap .i64 (x16 + x17)))] (fun (v22 : Value) => 
    xd .kp (fun (x23 : Option Addr) => rq (v22 = (.pointer x23)) <|
    kp [(.cells b11 1), (.cells b11 1), (.cells b0 3)] w21 <|
    (fun w24 => (alm (fun (b25 : Nat) => 
    (fun w26 => (cl prog N.large_New [(.pointer x6), (.agg #[(.int .u64 x19)])] (fun (v27 : Value) => 
    xd .kp (fun (x28 : Option Addr) => rq (v27 = (.pointer x28)) <|
    kp [(.cells b11 1), (.cells b0 3)] w26 <|
    al 118 [(.int .i64 x13), (.int .i64 x14), (.int .u64 x15), (.pointer x6), (.pointer x23), (.int .u64 x18), (.map (some b25)), (.pointer x28)] (fun (b29 : Addr) => 
    R (.tuple #[(.pointer (some b29)), (.int .i64 0)]))))) w26))) w24 ∧ ((fun w30 => (cl prog N.large_New [(.pointer x6), (.agg #[(.int .u64 x19)])] (fun (v31 : Value) => 
    xd .kp (fun (x32 : Option Addr) => rq (v31 = (.pointer x32)) <|
    kp [(.cells b11 1), (.cells b0 3)] w30 <|
    alm (fun (b33 : Nat) => 
    al 118 [(.int .i64 x13), (.int .i64 x14), (.int .u64 x15), (.pointer x6), (.pointer x23), (.int .u64 x18), (.map (some b33)), (.pointer x32)] (fun (b34 : Addr) => 
    R (.tuple #[(.pointer (some b34)), (.int .i64 0)])))))) w30)) w24)))) w21)) w20 ∧ (alm (fun (b35 : Nat) => 
    (fun w36 => (cl prog N.pages_New [(.int .i64 (IntKind.wrap .i64 (x16 + x17)))] (fun (v37 : Value) => 
    xd .kp (fun (x38 : Option Addr) => rq (v37 = (.pointer x38)) <|
    kp [(.cells b11 1), (.cells b11 1), (.cells b0 3)] w36 <|
    (fun w39 => (cl prog N.large_New [(.pointer x6), (.agg #[(.int .u64 x19)])] (fun (v40 : Value) => 
    xd .kp (fun (x41 : Option Addr) => rq (v40 = (.pointer x41)) <|
    kp [(.cells b11 1), (.cells b0 3)] w39 <|
    al 118 [(.int .i64 x13), (.int .i64 x14), (.int .u64 x15), (.pointer x6), (.pointer x38), (.int .u64 x18), (.map (some b35)), (.pointer x41)] (fun (b42 : Addr) => 
    R (.tuple #[(.pointer (some b42)), (.int .i64 0)]))))) w39)))) w36))) w20))))))))))))))))))
  (fun j43 =>
   ld (.ki .i64) (Addr.add b0 0) (fun (x44 : Int) => 
   br (ltI x44 0)
    (j43 (true, ()))
    (ld (.ki .i64) (Addr.add b0 1) (fun (x45 : Int) => 
    br (ltI x45 0)
     (j43 (true, ()))
     (ld (.ki .i64) (Addr.add b0 0) (fun (x46 : Int) => 
     br (ltI 256 x46)
      (j43 (true, ()))
      (ld (.ki .i64) (Addr.add b0 1) (fun (x47 : Int) => 
      ld (.ki .i64) (Addr.add b0 0) (fun (x48 : Int) => 
      br (ltI (IntKind.wrap .i64 (256 - x48)) x47)
       (j43 (true, ()))
       (ld (.ki .i64) (Addr.add b0 0) (fun (x49 : Int) => 
       ld (.ki .i64) (Addr.add b0 1) (fun (x50 : Int) => 
       j43 ((ltI (IntKind.wrap .i64 (x49 + x50)) 1), ()))))))))))))))
theorem T.region_New (p0_0 : Int) (p0_1 : Int) (p0_2 : Int) (R : Value → M) (w : World) (h : S.region_New p0_0 p0_1 p0_2 R w) : cl prog N.region_New [(.agg #[(.int .i64 p0_0), (.int .i64 p0_1), (.int .u64 p0_2)])] R w :=
  wpF_sound noNum_prog mixed_prog Go.Proofs.Tryz.func37 (.sq .nd (.sq (.jn [(34, .kb)] .nd .nd) .nd)) (by kernel_rfl) (Eq.mp (by kernel_rfl) h)

/-- tumbrel/fault.New -/
def S.fault_New (p0 : Option Addr) (R : Value → M) : M :=
  br (isN p0)
   (R (.pointer none))
   (alm (fun (b0 : Nat) => 
   al 122 [(.pointer p0), (.map (some b0)), (.slice none 0 0)] (fun (b1 : Addr) => 
   R (.pointer (some b1)))))
theorem T.fault_New (p0 : Option Addr) (R : Value → M) (w : World) (h : S.fault_New p0 R w) : cl prog N.fault_New [(.pointer p0)] R w :=
  wpF_sound noNum_prog mixed_prog Go.Proofs.Tryz.func38 .nd (by kernel_rfl) (Eq.mp (by kernel_rfl) h)

/-- tumbrel/remote.New -/
def S.remote_New (p0 : Int) (p1 : Int) (R : Value → M) : M :=
  rq (((0 : Int) ≤ (if ((64 : Int) < (if ((0 : Int) > p0) then 0 else p0)) then 64 else (if ((0 : Int) > p0) then 0 else p0))) ∧ ((((if ((64 : Int) < (if ((0 : Int) > p0) then 0 else p0)) then 64 else (if ((0 : Int) > p0) then 0 else p0)) : Int) ≤ (if ((64 : Int) < (if ((0 : Int) > p0) then 0 else p0)) then 64 else (if ((0 : Int) > p0) then 0 else p0))) ∧ ((((if ((64 : Int) < (if ((0 : Int) > p0) then 0 else p0)) then 64 else (if ((0 : Int) > p0) then 0 else p0)) : Int) ≤ (2 ^ 46)) ∧ ((((24 : Int) * (if ((64 : Int) < (if ((0 : Int) > p0) then 0 else p0)) then 64 else (if ((0 : Int) > p0) then 0 else p0))) : Int) ≤ (2 ^ 47))))) <|
  al 93 (repV (Int.toNat (if ((64 : Int) < (if ((0 : Int) > p0) then 0 else p0)) then 64 else (if ((0 : Int) > p0) then 0 else p0))) [(.slice none 0 0)]) (fun (b0 : Addr) => 
  alm (fun (b1 : Nat) => 
  al 125 [(.int .i64 (if ((64 : Int) < (if ((0 : Int) > p0) then 0 else p0)) then 64 else (if ((0 : Int) > p0) then 0 else p0))), (.int .i64 (if ((64 : Int) < (if ((1 : Int) > p1) then 1 else p1)) then 64 else (if ((1 : Int) > p1) then 1 else p1))), (.slice (some b0) (Int.toNat (if ((64 : Int) < (if ((0 : Int) > p0) then 0 else p0)) then 64 else (if ((0 : Int) > p0) then 0 else p0))) (Int.toNat (if ((64 : Int) < (if ((0 : Int) > p0) then 0 else p0)) then 64 else (if ((0 : Int) > p0) then 0 else p0)))), (.map (some b1))] (fun (b2 : Addr) => 
  R (.pointer (some b2)))))
theorem T.remote_New (p0 : Int) (p1 : Int) (R : Value → M) (w : World) (h : S.remote_New p0 p1 R w) : cl prog N.remote_New [(.int .i64 p0), (.int .i64 p1)] R w :=
  wpF_sound noNum_prog mixed_prog Go.Proofs.Tryz.func39 .nd (by kernel_rfl) (Eq.mp (by kernel_rfl) h)

/-- tumbrel/quar.New -/
def S.quar_New (p0 : Int) (R : Value → M) : M :=
  al 128 [(.int .i64 0), (.int .i64 0), (.int .i64 0), (.int .i64 0), (.int .i64 0), (.int .i64 0), (.int .i64 0), (.int .i64 0), (.int .i64 0), (.int .i64 0), (.int .i64 0), (.int .i64 0), (.int .i64 0), (.int .i64 0), (.int .i64 0), (.int .i64 0), (.int .i64 0), (.int .i64 0), (.int .i64 0), (.int .i64 0), (.int .i64 0), (.int .i64 0), (.int .i64 0), (.int .i64 0), (.int .i64 0), (.int .i64 0), (.int .i64 0), (.int .i64 0), (.int .i64 0), (.int .i64 0), (.int .i64 0), (.int .i64 0), (.int .i64 0), (.int .i64 0), (.int .i64 0), (.int .i64 0), (.int .i64 0), (.int .i64 0), (.int .i64 0), (.int .i64 0), (.int .i64 0), (.int .i64 0), (.int .i64 0), (.int .i64 0), (.int .i64 0), (.int .i64 0), (.int .i64 0), (.int .i64 0), (.int .i64 0), (.int .i64 0), (.int .i64 0), (.int .i64 0), (.int .i64 0), (.int .i64 0), (.int .i64 0), (.int .i64 0), (.int .i64 0), (.int .i64 0), (.int .i64 0), (.int .i64 0), (.int .i64 0), (.int .i64 0), (.int .i64 0), (.int .i64 0), (.int .i64 0), (.int .i64 0), (.int .i64 0), (.int .i64 (if ((64 : Int) < (if ((0 : Int) > p0) then 0 else p0)) then 64 else (if ((0 : Int) > p0) then 0 else p0)))] (fun (b0 : Addr) => 
  R (.pointer (some b0)))
theorem T.quar_New (p0 : Int) (R : Value → M) (w : World) (h : S.quar_New p0 R w) : cl prog N.quar_New [(.int .i64 p0)] R w :=
  wpF_sound noNum_prog mixed_prog Go.Proofs.Tryz.func40 .nd (by kernel_rfl) (Eq.mp (by kernel_rfl) h)

/-- tumbrel/tumbrelref09.May -/
def S.ref09_May (p0 : Int) (p1 : Int) (R : Value → M) : M :=
  br (leI 0 p0)
   (br (leI 0 p1)
    (br (leI p0 256)
     (br (leI p1 256)
      (br (leI 1 (IntKind.wrap .i64 (p0 + p1)))
       (R (.bool (leI (IntKind.wrap .i64 (p0 + p1)) 256)))
       (R (.bool false)))
      (R (.bool false)))
     (R (.bool false)))
    (R (.bool false)))
   (R (.bool false))
theorem T.ref09_May (p0 : Int) (p1 : Int) (R : Value → M) (w : World) (h : S.ref09_May p0 p1 R w) : cl prog N.ref09_May [(.int .i64 p0), (.int .i64 p1)] R w :=
  wpF_sound noNum_prog mixed_prog Go.Proofs.Tryz.func41 .nd (by kernel_rfl) (Eq.mp (by kernel_rfl) h)

/-- (*tumbrel/talloc.Pool).in -/
def S.talloc_Pool_in (p0 : Option Addr) (p1 : Int) (R : Value → M) : M :=
  br (notB (isN p0))
   (br (leI 0 p1)
    (nn p0 (fun (a0 : Addr) => ld .ks (Addr.add a0 9) (fun (x1 : Sl) => 
    R (.bool (ltI p1 (x1.len : Int))))))
    (R (.bool false)))
   (R (.bool false))
theorem T.talloc_Pool_in (p0 : Option Addr) (p1 : Int) (R : Value → M) (w : World) (h : S.talloc_Pool_in p0 p1 R w) : cl prog N.talloc_Pool_in [(.pointer p0), (.int .i64 p1)] R w :=
  wpF_sound noNum_prog mixed_prog Go.Proofs.Tryz.func42 .nd (by kernel_rfl) (Eq.mp (by kernel_rfl) h)

/-- tumbrel/arena.New -/
def S.arena_New (p0 : Int) (R : Value → M) : M :=
  rq (((0 : Int) ≤ (IntKind.wrap .i64 (256 * (if ((256 : Int) < (if ((0 : Int) > p0) then 0 else p0)) then 256 else (if ((0 : Int) > p0) then 0 else p0))))) ∧ ((((IntKind.wrap .i64 (256 * (if ((256 : Int) < (if ((0 : Int) > p0) then 0 else p0)) then 256 else (if ((0 : Int) > p0) then 0 else p0)))) : Int) ≤ (IntKind.wrap .i64 (256 * (if ((256 : Int) < (if ((0 : Int) > p0) then 0 else p0)) then 256 else (if ((0 : Int) > p0) then 0 else p0))))) ∧ ((((IntKind.wrap .i64 (256 * (if ((256 : Int) < (if ((0 : Int) > p0) then 0 else p0)) then 256 else (if ((0 : Int) > p0) then 0 else p0)))) : Int) ≤ (2 ^ 46)) ∧ ((((1 : Int) * (IntKind.wrap .i64 (256 * (if ((256 : Int) < (if ((0 : Int) > p0) then 0 else p0)) then 256 else (if ((0 : Int) > p0) then 0 else p0))))) : Int) ≤ (2 ^ 47))))) <|
  al 5 (repV (Int.toNat (IntKind.wrap .i64 (256 * (if ((256 : Int) < (if ((0 : Int) > p0) then 0 else p0)) then 256 else (if ((0 : Int) > p0) then 0 else p0))))) [(.int .u8 0)]) (fun (b0 : Addr) => 
  al 167 [(.slice (some b0) (Int.toNat (IntKind.wrap .i64 (256 * (if ((256 : Int) < (if ((0 : Int) > p0) then 0 else p0)) then 256 else (if ((0 : Int) > p0) then 0 else p0))))) (Int.toNat (IntKind.wrap .i64 (256 * (if ((256 : Int) < (if ((0 : Int) > p0) then 0 else p0)) then 256 else (if ((0 : Int) > p0) then 0 else p0))))))] (fun (b1 : Addr) => 
  R (.pointer (some b1))))
theorem T.arena_New (p0 : Int) (R : Value → M) (w : World) (h : S.arena_New p0 R w) : cl prog N.arena_New [(.int .i64 p0)] R w :=
  wpF_sound noNum_prog mixed_prog Go.Proofs.Tryz.func55 .nd (by kernel_rfl) (Eq.mp (by kernel_rfl) h)

/-- tumbrel/link.New -/
def S.link_New (p0 : Int) (R : Value → M) : M :=
  al 110 [(.int .u64 0)] (fun (b0 : Addr) => 
  cl prog N.link_mix [(.int .u64 (IntKind.wrap .u64 (p0 + 11400714819323198485)))] (fun (v2 : Value) => 
  xd (.ki .u64) (fun (x3 : Int) => rq (v2 = (.int .u64 x3)) <|
  stN b0 [(.int .u64 x3)] <|
  ld (.ki .u64) (Addr.add b0 0) (fun (x5 : Int) => 
  R (.agg #[(.int .u64 x5)])))))
theorem T.link_New (p0 : Int) (R : Value → M) (w : World) (h : S.link_New p0 R w) : cl prog N.link_New [(.int .u64 p0)] R w :=
  wpF_sound noNum_prog mixed_prog Go.Proofs.Tryz.func56 .nd (by kernel_rfl) (Eq.mp (by kernel_rfl) h)

/-- tumbrel/pages.New -/
def S.pages_New (p0 : Int) (R : Value → M) : M :=
  rq (((0 : Int) ≤ (if ((256 : Int) < (if ((0 : Int) > p0) then 0 else p0)) then 256 else (if ((0 : Int) > p0) then 0 else p0))) ∧ ((((if ((256 : Int) < (if ((0 : Int) > p0) then 0 else p0)) then 256 else (if ((0 : Int) > p0) then 0 else p0)) : Int) ≤ (if ((256 : Int) < (if ((0 : Int) > p0) then 0 else p0)) then 256 else (if ((0 : Int) > p0) then 0 else p0))) ∧ ((((if ((256 : Int) < (if ((0 : Int) > p0) then 0 else p0)) then 256 else (if ((0 : Int) > p0) then 0 else p0)) : Int) ≤ (2 ^ 46)) ∧ ((((32 : Int) * (if ((256 : Int) < (if ((0 : Int) > p0) then 0 else p0)) then 256 else (if ((0 : Int) > p0) then 0 else p0))) : Int) ≤ (2 ^ 47))))) <|
  al 203 (repV (Int.toNat (if ((256 : Int) < (if ((0 : Int) > p0) then 0 else p0)) then 256 else (if ((0 : Int) > p0) then 0 else p0))) [(.int .i64 0), (.int .i64 0), (.int .i64 0), (.int .i64 0)]) (fun (b0 : Addr) => 
  al 170 [(.slice (some b0) (Int.toNat (if ((256 : Int) < (if ((0 : Int) > p0) then 0 else p0)) then 256 else (if ((0 : Int) > p0) then 0 else p0))) (Int.toNat (if ((256 : Int) < (if ((0 : Int) > p0) then 0 else p0)) then 256 else (if ((0 : Int) > p0) then 0 else p0))))] (fun (b1 : Addr) => 
  R (.pointer (some b1))))
theorem T.pages_New (p0 : Int) (R : Value → M) (w : World) (h : S.pages_New p0 R w) : cl prog N.pages_New [(.int .i64 p0)] R w :=
  wpF_sound noNum_prog mixed_prog Go.Proofs.Tryz.func57 .nd (by kernel_rfl) (Eq.mp (by kernel_rfl) h)

/-- tumbrel/large.New -/
def S.large_New (p0 : Option Addr) (p1_0 : Int) (R : Value → M) : M :=
  al 110 [(.int .u64 p1_0)] (fun (b0 : Addr) => 
  br (isN p0)
   (R (.pointer none))
   (ld (.ki .u64) (Addr.add b0 0) (fun (x1 : Int) => 
   alm (fun (b2 : Nat) => 
   al 173 [(.pointer p0), (.int .u64 x1), (.map (some b2))] (fun (b3 : Addr) => 
   R (.pointer (some b3)))))))
theorem T.large_New (p0 : Option Addr) (p1_0 : Int) (R : Value → M) (w : World) (h : S.large_New p0 p1_0 R w) : cl prog N.large_New [(.pointer p0), (.agg #[(.int .u64 p1_0)])] R w :=
  wpF_sound noNum_prog mixed_prog Go.Proofs.Tryz.func58 .nd (by kernel_rfl) (Eq.mp (by kernel_rfl) h)

/-- tumbrel/link.mix -/
def S.link_mix (p0 : Int) (R : Value → M) : M :=
  rq ((0 : Int) ≤ 30) <|
  rq ((0 : Int) ≤ 27) <|
  rq ((0 : Int) ≤ 31) <|
  R (.int .u64 (bXor .u64 (IntKind.wrap .u64 ((bXor .u64 (IntKind.wrap .u64 ((bXor .u64 p0 (bShr .u64 p0 30)) * 13787848793156543929)) (bShr .u64 (IntKind.wrap .u64 ((bXor .u64 p0 (bShr .u64 p0 30)) * 13787848793156543929)) 27)) * 10723151780598845931)) (bShr .u64 (IntKind.wrap .u64 ((bXor .u64 (IntKind.wrap .u64 ((bXor .u64 p0 (bShr .u64 p0 30)) * 13787848793156543929)) (bShr .u64 (IntKind.wrap .u64 ((bXor .u64 p0 (bShr .u64 p0 30)) * 13787848793156543929)) 27)) * 10723151780598845931)) 31)))
theorem T.link_mix (p0 : Int) (R : Value → M) (w : World) (h : S.link_mix p0 R w) : cl prog N.link_mix [(.int .u64 p0)] R w :=
  wpF_sound noNum_prog mixed_prog Go.Proofs.Tryz.func82 .nd (by kernel_rfl) (Eq.mp (by kernel_rfl) h)

end Go.TB
