/- NumbersBack and NumbersDo, the plain laws: what the calls come to is true, for all numbers. -/
import Derived.Test.YtlklpdifcpjlpaaDoorCalc
namespace Go.Proofs.YtlklpdifcpjlpaaDoor
open Go.Abs
set_option maxRecDepth 100000
set_option linter.unusedVariables false

theorem law10 (k : Nat) (a b : Int) : execFunc env (den env N6 (k + 1)) 10 [.int .i64 a, .int .i64 b] []  =
  bif !safeB a then some (Out.ret (AVal.bool true), [])
else
  bif !safeB b then some (Out.ret (AVal.bool true), [])
  else
    bif calcB [45] a a then
      bif calcN [45] a a == 0 then
        bif calcB [42] a 1 then
          bif calcN [42] a 1 == a then
            bif calcB [42] a (-1) then
              bif calcN [42] a (-1) == IntKind.wrap IntKind.i64 (0 - a) then
                bif calcN [42] a b == calcN [42] b a then
                  bif true == (calcB [42] a b == calcB [42] b a) then
                    bif !calcB [42] a b then some (Out.ret (AVal.bool true), [])
                    else
                      bif b == 0 then some (Out.ret (AVal.bool true), [])
                      else
                        if b = 0 then none
                        else
                          some (Out.ret (AVal.bool (IntKind.wrap IntKind.i64 (Int.tdiv (calcN [42] a b) b) == a)), [])
                  else some (Out.ret (AVal.bool false), [])
                else some (Out.ret (AVal.bool false), [])
              else some (Out.ret (AVal.bool false), [])
            else some (Out.ret (AVal.bool false), [])
          else some (Out.ret (AVal.bool false), [])
        else some (Out.ret (AVal.bool false), [])
      else some (Out.ret (AVal.bool false), [])
    else some (Out.ret (AVal.bool false), []) := by kernel_rfl
theorem law8 (k : Nat) (i a b : Int) : execFunc env (den env N6 (k + 1)) 8 [.int .i64 i, .int .i64 a, .int .i64 b] []  =
  bif decide (i < 0) then some (Out.ret (AVal.bool true), [])
else
  bif decide (i ≥ 7) then some (Out.ret (AVal.bool true), [])
  else
    if 0 ≤ i then
      Nat.casesOn (Int.toNat i)
        (if 0 ≤ i then
          Nat.casesOn (Int.toNat i)
            (bif calcN [43] a b == calcN [43] a b then
              bif true == (calcB [43] a b == calcB [43] a b) then
                bif !calcB [43] a b then some (Out.ret (AVal.bool true), [])
                else some (Out.ret (AVal.bool (safeB (calcN [43] a b))), [])
              else some (Out.ret (AVal.bool false), [])
            else some (Out.ret (AVal.bool false), []))
            fun n =>
            Nat.casesOn n
              (bif calcN [43] a b == calcN [45] a b then
                bif true == (calcB [43] a b == calcB [45] a b) then
                  bif !calcB [43] a b then some (Out.ret (AVal.bool true), [])
                  else some (Out.ret (AVal.bool (safeB (calcN [43] a b))), [])
                else some (Out.ret (AVal.bool false), [])
              else some (Out.ret (AVal.bool false), []))
              fun n =>
              Nat.casesOn n
                (bif calcN [43] a b == calcN [42] a b then
                  bif true == (calcB [43] a b == calcB [42] a b) then
                    bif !calcB [43] a b then some (Out.ret (AVal.bool true), [])
                    else some (Out.ret (AVal.bool (safeB (calcN [43] a b))), [])
                  else some (Out.ret (AVal.bool false), [])
                else some (Out.ret (AVal.bool false), []))
                fun n =>
                Nat.casesOn n
                  (bif calcN [43] a b == calcN [47] a b then
                    bif true == (calcB [43] a b == calcB [47] a b) then
                      bif !calcB [43] a b then some (Out.ret (AVal.bool true), [])
                      else some (Out.ret (AVal.bool (safeB (calcN [43] a b))), [])
                    else some (Out.ret (AVal.bool false), [])
                  else some (Out.ret (AVal.bool false), []))
                  fun n =>
                  Nat.casesOn n
                    (bif calcN [43] a b == calcN [37] a b then
                      bif true == (calcB [43] a b == calcB [37] a b) then
                        bif !calcB [43] a b then some (Out.ret (AVal.bool true), [])
                        else some (Out.ret (AVal.bool (safeB (calcN [43] a b))), [])
                      else some (Out.ret (AVal.bool false), [])
                    else some (Out.ret (AVal.bool false), []))
                    fun n =>
                    Nat.casesOn n
                      (bif calcN [43] a b == calcN [42, 42] a b then
                        bif true == (calcB [43] a b == calcB [42, 42] a b) then
                          bif !calcB [43] a b then some (Out.ret (AVal.bool true), [])
                          else some (Out.ret (AVal.bool (safeB (calcN [43] a b))), [])
                        else some (Out.ret (AVal.bool false), [])
                      else some (Out.ret (AVal.bool false), []))
                      fun n =>
                      Nat.casesOn n
                        (bif calcN [43] a b == calcN [] a b then
                          bif true == (calcB [43] a b == calcB [] a b) then
                            bif !calcB [43] a b then some (Out.ret (AVal.bool true), [])
                            else some (Out.ret (AVal.bool (safeB (calcN [43] a b))), [])
                          else some (Out.ret (AVal.bool false), [])
                        else some (Out.ret (AVal.bool false), []))
                        fun n => none
        else none)
        fun n =>
        Nat.casesOn n
          (if 0 ≤ i then
            Nat.casesOn (Int.toNat i)
              (bif calcN [45] a b == calcN [43] a b then
                bif true == (calcB [45] a b == calcB [43] a b) then
                  bif !calcB [45] a b then some (Out.ret (AVal.bool true), [])
                  else some (Out.ret (AVal.bool (safeB (calcN [45] a b))), [])
                else some (Out.ret (AVal.bool false), [])
              else some (Out.ret (AVal.bool false), []))
              fun n =>
              Nat.casesOn n
                (bif calcN [45] a b == calcN [45] a b then
                  bif true == (calcB [45] a b == calcB [45] a b) then
                    bif !calcB [45] a b then some (Out.ret (AVal.bool true), [])
                    else some (Out.ret (AVal.bool (safeB (calcN [45] a b))), [])
                  else some (Out.ret (AVal.bool false), [])
                else some (Out.ret (AVal.bool false), []))
                fun n =>
                Nat.casesOn n
                  (bif calcN [45] a b == calcN [42] a b then
                    bif true == (calcB [45] a b == calcB [42] a b) then
                      bif !calcB [45] a b then some (Out.ret (AVal.bool true), [])
                      else some (Out.ret (AVal.bool (safeB (calcN [45] a b))), [])
                    else some (Out.ret (AVal.bool false), [])
                  else some (Out.ret (AVal.bool false), []))
                  fun n =>
                  Nat.casesOn n
                    (bif calcN [45] a b == calcN [47] a b then
                      bif true == (calcB [45] a b == calcB [47] a b) then
                        bif !calcB [45] a b then some (Out.ret (AVal.bool true), [])
                        else some (Out.ret (AVal.bool (safeB (calcN [45] a b))), [])
                      else some (Out.ret (AVal.bool false), [])
                    else some (Out.ret (AVal.bool false), []))
                    fun n =>
                    Nat.casesOn n
                      (bif calcN [45] a b == calcN [37] a b then
                        bif true == (calcB [45] a b == calcB [37] a b) then
                          bif !calcB [45] a b then some (Out.ret (AVal.bool true), [])
                          else some (Out.ret (AVal.bool (safeB (calcN [45] a b))), [])
                        else some (Out.ret (AVal.bool false), [])
                      else some (Out.ret (AVal.bool false), []))
                      fun n =>
                      Nat.casesOn n
                        (bif calcN [45] a b == calcN [42, 42] a b then
                          bif true == (calcB [45] a b == calcB [42, 42] a b) then
                            bif !calcB [45] a b then some (Out.ret (AVal.bool true), [])
                            else some (Out.ret (AVal.bool (safeB (calcN [45] a b))), [])
                          else some (Out.ret (AVal.bool false), [])
                        else some (Out.ret (AVal.bool false), []))
                        fun n =>
                        Nat.casesOn n
                          (bif calcN [45] a b == calcN [] a b then
                            bif true == (calcB [45] a b == calcB [] a b) then
                              bif !calcB [45] a b then some (Out.ret (AVal.bool true), [])
                              else some (Out.ret (AVal.bool (safeB (calcN [45] a b))), [])
                            else some (Out.ret (AVal.bool false), [])
                          else some (Out.ret (AVal.bool false), []))
                          fun n => none
          else none)
          fun n =>
          Nat.casesOn n
            (if 0 ≤ i then
              Nat.casesOn (Int.toNat i)
                (bif calcN [42] a b == calcN [43] a b then
                  bif true == (calcB [42] a b == calcB [43] a b) then
                    bif !calcB [42] a b then some (Out.ret (AVal.bool true), [])
                    else some (Out.ret (AVal.bool (safeB (calcN [42] a b))), [])
                  else some (Out.ret (AVal.bool false), [])
                else some (Out.ret (AVal.bool false), []))
                fun n =>
                Nat.casesOn n
                  (bif calcN [42] a b == calcN [45] a b then
                    bif true == (calcB [42] a b == calcB [45] a b) then
                      bif !calcB [42] a b then some (Out.ret (AVal.bool true), [])
                      else some (Out.ret (AVal.bool (safeB (calcN [42] a b))), [])
                    else some (Out.ret (AVal.bool false), [])
                  else some (Out.ret (AVal.bool false), []))
                  fun n =>
                  Nat.casesOn n
                    (bif calcN [42] a b == calcN [42] a b then
                      bif true == (calcB [42] a b == calcB [42] a b) then
                        bif !calcB [42] a b then some (Out.ret (AVal.bool true), [])
                        else some (Out.ret (AVal.bool (safeB (calcN [42] a b))), [])
                      else some (Out.ret (AVal.bool false), [])
                    else some (Out.ret (AVal.bool false), []))
                    fun n =>
                    Nat.casesOn n
                      (bif calcN [42] a b == calcN [47] a b then
                        bif true == (calcB [42] a b == calcB [47] a b) then
                          bif !calcB [42] a b then some (Out.ret (AVal.bool true), [])
                          else some (Out.ret (AVal.bool (safeB (calcN [42] a b))), [])
                        else some (Out.ret (AVal.bool false), [])
                      else some (Out.ret (AVal.bool false), []))
                      fun n =>
                      Nat.casesOn n
                        (bif calcN [42] a b == calcN [37] a b then
                          bif true == (calcB [42] a b == calcB [37] a b) then
                            bif !calcB [42] a b then some (Out.ret (AVal.bool true), [])
                            else some (Out.ret (AVal.bool (safeB (calcN [42] a b))), [])
                          else some (Out.ret (AVal.bool false), [])
                        else some (Out.ret (AVal.bool false), []))
                        fun n =>
                        Nat.casesOn n
                          (bif calcN [42] a b == calcN [42, 42] a b then
                            bif true == (calcB [42] a b == calcB [42, 42] a b) then
                              bif !calcB [42] a b then some (Out.ret (AVal.bool true), [])
                              else some (Out.ret (AVal.bool (safeB (calcN [42] a b))), [])
                            else some (Out.ret (AVal.bool false), [])
                          else some (Out.ret (AVal.bool false), []))
                          fun n =>
                          Nat.casesOn n
                            (bif calcN [42] a b == calcN [] a b then
                              bif true == (calcB [42] a b == calcB [] a b) then
                                bif !calcB [42] a b then some (Out.ret (AVal.bool true), [])
                                else some (Out.ret (AVal.bool (safeB (calcN [42] a b))), [])
                              else some (Out.ret (AVal.bool false), [])
                            else some (Out.ret (AVal.bool false), []))
                            fun n => none
            else none)
            fun n =>
            Nat.casesOn n
              (if 0 ≤ i then
                Nat.casesOn (Int.toNat i)
                  (bif calcN [47] a b == calcN [43] a b then
                    bif true == (calcB [47] a b == calcB [43] a b) then
                      bif !calcB [47] a b then some (Out.ret (AVal.bool true), [])
                      else some (Out.ret (AVal.bool (safeB (calcN [47] a b))), [])
                    else some (Out.ret (AVal.bool false), [])
                  else some (Out.ret (AVal.bool false), []))
                  fun n =>
                  Nat.casesOn n
                    (bif calcN [47] a b == calcN [45] a b then
                      bif true == (calcB [47] a b == calcB [45] a b) then
                        bif !calcB [47] a b then some (Out.ret (AVal.bool true), [])
                        else some (Out.ret (AVal.bool (safeB (calcN [47] a b))), [])
                      else some (Out.ret (AVal.bool false), [])
                    else some (Out.ret (AVal.bool false), []))
                    fun n =>
                    Nat.casesOn n
                      (bif calcN [47] a b == calcN [42] a b then
                        bif true == (calcB [47] a b == calcB [42] a b) then
                          bif !calcB [47] a b then some (Out.ret (AVal.bool true), [])
                          else some (Out.ret (AVal.bool (safeB (calcN [47] a b))), [])
                        else some (Out.ret (AVal.bool false), [])
                      else some (Out.ret (AVal.bool false), []))
                      fun n =>
                      Nat.casesOn n
                        (bif calcN [47] a b == calcN [47] a b then
                          bif true == (calcB [47] a b == calcB [47] a b) then
                            bif !calcB [47] a b then some (Out.ret (AVal.bool true), [])
                            else some (Out.ret (AVal.bool (safeB (calcN [47] a b))), [])
                          else some (Out.ret (AVal.bool false), [])
                        else some (Out.ret (AVal.bool false), []))
                        fun n =>
                        Nat.casesOn n
                          (bif calcN [47] a b == calcN [37] a b then
                            bif true == (calcB [47] a b == calcB [37] a b) then
                              bif !calcB [47] a b then some (Out.ret (AVal.bool true), [])
                              else some (Out.ret (AVal.bool (safeB (calcN [47] a b))), [])
                            else some (Out.ret (AVal.bool false), [])
                          else some (Out.ret (AVal.bool false), []))
                          fun n =>
                          Nat.casesOn n
                            (bif calcN [47] a b == calcN [42, 42] a b then
                              bif true == (calcB [47] a b == calcB [42, 42] a b) then
                                bif !calcB [47] a b then some (Out.ret (AVal.bool true), [])
                                else some (Out.ret (AVal.bool (safeB (calcN [47] a b))), [])
                              else some (Out.ret (AVal.bool false), [])
                            else some (Out.ret (AVal.bool false), []))
                            fun n =>
                            Nat.casesOn n
                              (bif calcN [47] a b == calcN [] a b then
                                bif true == (calcB [47] a b == calcB [] a b) then
                                  bif !calcB [47] a b then some (Out.ret (AVal.bool true), [])
                                  else some (Out.ret (AVal.bool (safeB (calcN [47] a b))), [])
                                else some (Out.ret (AVal.bool false), [])
                              else some (Out.ret (AVal.bool false), []))
                              fun n => none
              else none)
              fun n =>
              Nat.casesOn n
                (if 0 ≤ i then
                  Nat.casesOn (Int.toNat i)
                    (bif calcN [37] a b == calcN [43] a b then
                      bif true == (calcB [37] a b == calcB [43] a b) then
                        bif !calcB [37] a b then some (Out.ret (AVal.bool true), [])
                        else some (Out.ret (AVal.bool (safeB (calcN [37] a b))), [])
                      else some (Out.ret (AVal.bool false), [])
                    else some (Out.ret (AVal.bool false), []))
                    fun n =>
                    Nat.casesOn n
                      (bif calcN [37] a b == calcN [45] a b then
                        bif true == (calcB [37] a b == calcB [45] a b) then
                          bif !calcB [37] a b then some (Out.ret (AVal.bool true), [])
                          else some (Out.ret (AVal.bool (safeB (calcN [37] a b))), [])
                        else some (Out.ret (AVal.bool false), [])
                      else some (Out.ret (AVal.bool false), []))
                      fun n =>
                      Nat.casesOn n
                        (bif calcN [37] a b == calcN [42] a b then
                          bif true == (calcB [37] a b == calcB [42] a b) then
                            bif !calcB [37] a b then some (Out.ret (AVal.bool true), [])
                            else some (Out.ret (AVal.bool (safeB (calcN [37] a b))), [])
                          else some (Out.ret (AVal.bool false), [])
                        else some (Out.ret (AVal.bool false), []))
                        fun n =>
                        Nat.casesOn n
                          (bif calcN [37] a b == calcN [47] a b then
                            bif true == (calcB [37] a b == calcB [47] a b) then
                              bif !calcB [37] a b then some (Out.ret (AVal.bool true), [])
                              else some (Out.ret (AVal.bool (safeB (calcN [37] a b))), [])
                            else some (Out.ret (AVal.bool false), [])
                          else some (Out.ret (AVal.bool false), []))
                          fun n =>
                          Nat.casesOn n
                            (bif calcN [37] a b == calcN [37] a b then
                              bif true == (calcB [37] a b == calcB [37] a b) then
                                bif !calcB [37] a b then some (Out.ret (AVal.bool true), [])
                                else some (Out.ret (AVal.bool (safeB (calcN [37] a b))), [])
                              else some (Out.ret (AVal.bool false), [])
                            else some (Out.ret (AVal.bool false), []))
                            fun n =>
                            Nat.casesOn n
                              (bif calcN [37] a b == calcN [42, 42] a b then
                                bif true == (calcB [37] a b == calcB [42, 42] a b) then
                                  bif !calcB [37] a b then some (Out.ret (AVal.bool true), [])
                                  else some (Out.ret (AVal.bool (safeB (calcN [37] a b))), [])
                                else some (Out.ret (AVal.bool false), [])
                              else some (Out.ret (AVal.bool false), []))
                              fun n =>
                              Nat.casesOn n
                                (bif calcN [37] a b == calcN [] a b then
                                  bif true == (calcB [37] a b == calcB [] a b) then
                                    bif !calcB [37] a b then some (Out.ret (AVal.bool true), [])
                                    else some (Out.ret (AVal.bool (safeB (calcN [37] a b))), [])
                                  else some (Out.ret (AVal.bool false), [])
                                else some (Out.ret (AVal.bool false), []))
                                fun n => none
                else none)
                fun n =>
                Nat.casesOn n
                  (if 0 ≤ i then
                    Nat.casesOn (Int.toNat i)
                      (bif calcN [42, 42] a b == calcN [43] a b then
                        bif true == (calcB [42, 42] a b == calcB [43] a b) then
                          bif !calcB [42, 42] a b then some (Out.ret (AVal.bool true), [])
                          else some (Out.ret (AVal.bool (safeB (calcN [42, 42] a b))), [])
                        else some (Out.ret (AVal.bool false), [])
                      else some (Out.ret (AVal.bool false), []))
                      fun n =>
                      Nat.casesOn n
                        (bif calcN [42, 42] a b == calcN [45] a b then
                          bif true == (calcB [42, 42] a b == calcB [45] a b) then
                            bif !calcB [42, 42] a b then some (Out.ret (AVal.bool true), [])
                            else some (Out.ret (AVal.bool (safeB (calcN [42, 42] a b))), [])
                          else some (Out.ret (AVal.bool false), [])
                        else some (Out.ret (AVal.bool false), []))
                        fun n =>
                        Nat.casesOn n
                          (bif calcN [42, 42] a b == calcN [42] a b then
                            bif true == (calcB [42, 42] a b == calcB [42] a b) then
                              bif !calcB [42, 42] a b then some (Out.ret (AVal.bool true), [])
                              else some (Out.ret (AVal.bool (safeB (calcN [42, 42] a b))), [])
                            else some (Out.ret (AVal.bool false), [])
                          else some (Out.ret (AVal.bool false), []))
                          fun n =>
                          Nat.casesOn n
                            (bif calcN [42, 42] a b == calcN [47] a b then
                              bif true == (calcB [42, 42] a b == calcB [47] a b) then
                                bif !calcB [42, 42] a b then some (Out.ret (AVal.bool true), [])
                                else some (Out.ret (AVal.bool (safeB (calcN [42, 42] a b))), [])
                              else some (Out.ret (AVal.bool false), [])
                            else some (Out.ret (AVal.bool false), []))
                            fun n =>
                            Nat.casesOn n
                              (bif calcN [42, 42] a b == calcN [37] a b then
                                bif true == (calcB [42, 42] a b == calcB [37] a b) then
                                  bif !calcB [42, 42] a b then some (Out.ret (AVal.bool true), [])
                                  else some (Out.ret (AVal.bool (safeB (calcN [42, 42] a b))), [])
                                else some (Out.ret (AVal.bool false), [])
                              else some (Out.ret (AVal.bool false), []))
                              fun n =>
                              Nat.casesOn n
                                (bif calcN [42, 42] a b == calcN [42, 42] a b then
                                  bif true == (calcB [42, 42] a b == calcB [42, 42] a b) then
                                    bif !calcB [42, 42] a b then some (Out.ret (AVal.bool true), [])
                                    else some (Out.ret (AVal.bool (safeB (calcN [42, 42] a b))), [])
                                  else some (Out.ret (AVal.bool false), [])
                                else some (Out.ret (AVal.bool false), []))
                                fun n =>
                                Nat.casesOn n
                                  (bif calcN [42, 42] a b == calcN [] a b then
                                    bif true == (calcB [42, 42] a b == calcB [] a b) then
                                      bif !calcB [42, 42] a b then some (Out.ret (AVal.bool true), [])
                                      else some (Out.ret (AVal.bool (safeB (calcN [42, 42] a b))), [])
                                    else some (Out.ret (AVal.bool false), [])
                                  else some (Out.ret (AVal.bool false), []))
                                  fun n => none
                  else none)
                  fun n =>
                  Nat.casesOn n
                    (if 0 ≤ i then
                      Nat.casesOn (Int.toNat i)
                        (bif calcN [] a b == calcN [43] a b then
                          bif true == (calcB [] a b == calcB [43] a b) then
                            bif !calcB [] a b then some (Out.ret (AVal.bool true), [])
                            else some (Out.ret (AVal.bool (safeB (calcN [] a b))), [])
                          else some (Out.ret (AVal.bool false), [])
                        else some (Out.ret (AVal.bool false), []))
                        fun n =>
                        Nat.casesOn n
                          (bif calcN [] a b == calcN [45] a b then
                            bif true == (calcB [] a b == calcB [45] a b) then
                              bif !calcB [] a b then some (Out.ret (AVal.bool true), [])
                              else some (Out.ret (AVal.bool (safeB (calcN [] a b))), [])
                            else some (Out.ret (AVal.bool false), [])
                          else some (Out.ret (AVal.bool false), []))
                          fun n =>
                          Nat.casesOn n
                            (bif calcN [] a b == calcN [42] a b then
                              bif true == (calcB [] a b == calcB [42] a b) then
                                bif !calcB [] a b then some (Out.ret (AVal.bool true), [])
                                else some (Out.ret (AVal.bool (safeB (calcN [] a b))), [])
                              else some (Out.ret (AVal.bool false), [])
                            else some (Out.ret (AVal.bool false), []))
                            fun n =>
                            Nat.casesOn n
                              (bif calcN [] a b == calcN [47] a b then
                                bif true == (calcB [] a b == calcB [47] a b) then
                                  bif !calcB [] a b then some (Out.ret (AVal.bool true), [])
                                  else some (Out.ret (AVal.bool (safeB (calcN [] a b))), [])
                                else some (Out.ret (AVal.bool false), [])
                              else some (Out.ret (AVal.bool false), []))
                              fun n =>
                              Nat.casesOn n
                                (bif calcN [] a b == calcN [37] a b then
                                  bif true == (calcB [] a b == calcB [37] a b) then
                                    bif !calcB [] a b then some (Out.ret (AVal.bool true), [])
                                    else some (Out.ret (AVal.bool (safeB (calcN [] a b))), [])
                                  else some (Out.ret (AVal.bool false), [])
                                else some (Out.ret (AVal.bool false), []))
                                fun n =>
                                Nat.casesOn n
                                  (bif calcN [] a b == calcN [42, 42] a b then
                                    bif true == (calcB [] a b == calcB [42, 42] a b) then
                                      bif !calcB [] a b then some (Out.ret (AVal.bool true), [])
                                      else some (Out.ret (AVal.bool (safeB (calcN [] a b))), [])
                                    else some (Out.ret (AVal.bool false), [])
                                  else some (Out.ret (AVal.bool false), []))
                                  fun n =>
                                  Nat.casesOn n
                                    (bif calcN [] a b == calcN [] a b then
                                      bif true == (calcB [] a b == calcB [] a b) then
                                        bif !calcB [] a b then some (Out.ret (AVal.bool true), [])
                                        else some (Out.ret (AVal.bool (safeB (calcN [] a b))), [])
                                      else some (Out.ret (AVal.bool false), [])
                                    else some (Out.ret (AVal.bool false), []))
                                    fun n => none
                    else none)
                    fun n => none
    else none := by kernel_rfl
theorem law8_0 (k : Nat) (a b : Int) : execFunc env (den env N6 (k + 1)) 8 [.int .i64 0, .int .i64 a, .int .i64 b] []  =
  bif calcN [43] a b == calcN [43] a b then
  bif true == (calcB [43] a b == calcB [43] a b) then
    bif !calcB [43] a b then some (Out.ret (AVal.bool true), [])
    else some (Out.ret (AVal.bool (safeB (calcN [43] a b))), [])
  else some (Out.ret (AVal.bool false), [])
else some (Out.ret (AVal.bool false), []) := by kernel_rfl
theorem law8_1 (k : Nat) (a b : Int) : execFunc env (den env N6 (k + 1)) 8 [.int .i64 1, .int .i64 a, .int .i64 b] []  =
  bif calcN [45] a b == calcN [45] a b then
  bif true == (calcB [45] a b == calcB [45] a b) then
    bif !calcB [45] a b then some (Out.ret (AVal.bool true), [])
    else some (Out.ret (AVal.bool (safeB (calcN [45] a b))), [])
  else some (Out.ret (AVal.bool false), [])
else some (Out.ret (AVal.bool false), []) := by kernel_rfl
theorem law8_2 (k : Nat) (a b : Int) : execFunc env (den env N6 (k + 1)) 8 [.int .i64 2, .int .i64 a, .int .i64 b] []  =
  bif calcN [42] a b == calcN [42] a b then
  bif true == (calcB [42] a b == calcB [42] a b) then
    bif !calcB [42] a b then some (Out.ret (AVal.bool true), [])
    else some (Out.ret (AVal.bool (safeB (calcN [42] a b))), [])
  else some (Out.ret (AVal.bool false), [])
else some (Out.ret (AVal.bool false), []) := by kernel_rfl
theorem law8_3 (k : Nat) (a b : Int) : execFunc env (den env N6 (k + 1)) 8 [.int .i64 3, .int .i64 a, .int .i64 b] []  =
  bif calcN [47] a b == calcN [47] a b then
  bif true == (calcB [47] a b == calcB [47] a b) then
    bif !calcB [47] a b then some (Out.ret (AVal.bool true), [])
    else some (Out.ret (AVal.bool (safeB (calcN [47] a b))), [])
  else some (Out.ret (AVal.bool false), [])
else some (Out.ret (AVal.bool false), []) := by kernel_rfl
theorem law8_4 (k : Nat) (a b : Int) : execFunc env (den env N6 (k + 1)) 8 [.int .i64 4, .int .i64 a, .int .i64 b] []  =
  bif calcN [37] a b == calcN [37] a b then
  bif true == (calcB [37] a b == calcB [37] a b) then
    bif !calcB [37] a b then some (Out.ret (AVal.bool true), [])
    else some (Out.ret (AVal.bool (safeB (calcN [37] a b))), [])
  else some (Out.ret (AVal.bool false), [])
else some (Out.ret (AVal.bool false), []) := by kernel_rfl
theorem law8_5 (k : Nat) (a b : Int) : execFunc env (den env N6 (k + 1)) 8 [.int .i64 5, .int .i64 a, .int .i64 b] []  =
  bif calcN [42, 42] a b == calcN [42, 42] a b then
  bif true == (calcB [42, 42] a b == calcB [42, 42] a b) then
    bif !calcB [42, 42] a b then some (Out.ret (AVal.bool true), [])
    else some (Out.ret (AVal.bool (safeB (calcN [42, 42] a b))), [])
  else some (Out.ret (AVal.bool false), [])
else some (Out.ret (AVal.bool false), []) := by kernel_rfl
theorem law8_6 (k : Nat) (a b : Int) : execFunc env (den env N6 (k + 1)) 8 [.int .i64 6, .int .i64 a, .int .i64 b] []  =
  bif calcN [] a b == calcN [] a b then
  bif true == (calcB [] a b == calcB [] a b) then
    bif !calcB [] a b then some (Out.ret (AVal.bool true), [])
    else some (Out.ret (AVal.bool (safeB (calcN [] a b))), [])
  else some (Out.ret (AVal.bool false), [])
else some (Out.ret (AVal.bool false), []) := by kernel_rfl

theorem calc_safe_of (op : List UInt8) (a b : Int) (h : calcB op a b = true) : safeB (calcN op a b) = true := by
  unfold calcN
  rw [h]
  simp only [cond_true]
  unfold calcB at h
  rw [Bool.and_eq_true, Bool.and_eq_true] at h
  have h := h.2.2
  unfold rawB at h
  unfold rawN
  split at h
  · exact h
  · exact h
  · exact h
  · rw [Bool.and_eq_true] at h; exact h.2
  · rw [Bool.and_eq_true] at h; exact h.2
  · cases h
theorem do_leaf (op : List UInt8) (a b : Int) : (bif calcN op a b == calcN op a b then
        bif true == (calcB op a b == calcB op a b) then
          bif !calcB op a b then some (Out.ret (AVal.bool true), ([] : Mem))
          else some (Out.ret (AVal.bool (safeB (calcN op a b))), [])
        else some (Out.ret (AVal.bool false), [])
      else some (Out.ret (AVal.bool false), [])) = some (.ret (.bool true), []) := by
  cases h : calcB op a b with
  | false => simp
  | true => rw [calc_safe_of op a b h]; simp
theorem do_true (k : Nat) (i a b : Int) : execFunc env (den env N6 (k + 1)) 8 [.int .i64 i, .int .i64 a, .int .i64 b] [] = some (.ret (.bool true), []) := by
  by_cases h1 : i < 0
  · rw [law8, decide_eq_true h1]; rfl
  · by_cases h2 : i ≥ 7
    · rw [law8, decide_eq_false h1, decide_eq_true h2]; rfl
    · have : i = 0 ∨ i = 1 ∨ i = 2 ∨ i = 3 ∨ i = 4 ∨ i = 5 ∨ i = 6 := by omega
      rcases this with rfl | rfl | rfl | rfl | rfl | rfl | rfl
      · rw [law8_0]; exact do_leaf ..
      · rw [law8_1]; exact do_leaf ..
      · rw [law8_2]; exact do_leaf ..
      · rw [law8_3]; exact do_leaf ..
      · rw [law8_4]; exact do_leaf ..
      · rw [law8_5]; exact do_leaf ..
      · rw [law8_6]; exact do_leaf ..
theorem back_true (k : Nat) (a b : Int) : execFunc env (den env N6 (k + 1)) 10 [.int .i64 a, .int .i64 b] [] = some (.ret (.bool true), []) := by
  rw [law10]
  cases ha : safeB a with
  | false => rfl
  | true =>
    cases hb : safeB b with
    | false => rfl
    | true =>
      have hm : safeB (a * 1) = true := by rw [Int.mul_one]; exact ha
      have hn : safeB (a * -1) = true := by
        obtain ⟨h1, h2⟩ := safe_iff.1 ha
        exact safe_iff.2 ⟨by omega, by omega⟩
      have h0 : safeB (a - a) = true := by rw [Int.sub_self]; rfl
      have s1 : safeB 1 = true := rfl
      have s2 : safeB (-1) = true := rfl
      have e1 : calcB [45] a a = true := by simp only [calcB, rawB, ha, h0]; rfl
      have e2 : calcN [45] a a = 0 := by simp only [calcN, e1, rawN, cond_true, Int.sub_self]
      have e3 : calcB [42] a 1 = true := by simp only [calcB, rawB, ha, s1, hm]; rfl
      have e4 : calcN [42] a 1 = a := by simp only [calcN, e3, rawN, cond_true, Int.mul_one]
      have e5 : calcB [42] a (-1) = true := by simp only [calcB, rawB, ha, s2, hn]; rfl
      have e6 : calcN [42] a (-1) = a * -1 := by simp only [calcN, e5, rawN, cond_true]
      have e7 : calcB [42] b a = calcB [42] a b := by simp only [calcB, rawB, ha, hb, Int.mul_comm b a]
      have e8 : calcN [42] b a = calcN [42] a b := by simp only [calcN, e7, rawN, Int.mul_comm b a]
      have e9 : IntKind.wrap IntKind.i64 (0 - a) = a * -1 := by
        obtain ⟨h1, h2⟩ := safe_iff.1 ha
        rw [wrap64 (by omega) (by omega)]; omega
      rw [e1, e2, e3, e4, e5, e6, e7, e8, e9]
      cases hc : calcB [42] a b with
      | false => simp
      | true =>
        by_cases hz : b = 0
        · simp [hz]
        · have h2 : (b == 0) = false := by simpa using hz
          have ec : calcN [42] a b = a * b := by simp only [calcN, hc, rawN, cond_true]
          have ed : Int.tdiv (a * b) b = a := Int.mul_tdiv_cancel a hz
          rw [h2, if_neg hz, ec, ed, mul_wrap ha]
          simp
end Go.Proofs.YtlklpdifcpjlpaaDoor
