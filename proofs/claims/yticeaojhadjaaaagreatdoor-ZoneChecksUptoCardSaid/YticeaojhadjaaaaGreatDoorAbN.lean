/- Part 14 of the proof that this seat's laws lean on: an abstract machine over the model's code, its soundness, and what it says of this program. -/
import Derived.Test.YticeaojhadjaaaaGreatDoorAbM

section
set_option linter.unusedSimpArgs false
/-! What the program's functions come to: each is checked by reckoning. -/
set_option autoImplicit false
set_option linter.unusedVariables false
set_option maxRecDepth 100000
namespace Go.Ab

theorem c3 (l0 : List (List Dat)) (n1 : Int) (n2 : Int) (n3 : Int) (l4 : List (List Dat)) (l5 : List (List Dat)) {r : Res} (h :
  (bif decide ((↑l5.length : Int) > 200) then bif decide ((↑l5.length : Int) > 200) then some (Res.ret false [4] [Dat.bool true] []) else none
else
  bindR Out none false [4] [] (fun v => some (Res.panic (6, v).snd))
    (fun rs xs =>
      bindR Out none false [4] [] (fun v => some (Res.panic (8, v).snd))
        (fun rs_1 xs =>
          bif (rs.getD 0 Dat.nilP).b == (rs_1.getD 0 Dat.nilP).b then
            bindR Out none false [4] [] (fun v => some (Res.panic (11, v).snd))
              (fun rs_2 xs =>
                bif (rs.getD 0 Dat.nilP).b == (rs_1.getD 0 Dat.nilP).b then bif decide ((↑l5.length : Int) > 200) then some (Res.ret false [4] [Dat.bool true] []) else some (Res.ret false [4] [Dat.bool (rs_2.getD 0 Dat.nilP).b] [])
                else bif decide ((↑l5.length : Int) > 200) then some (Res.ret false [4] [Dat.bool true] []) else some (Res.ret false [4] [Dat.bool false] []))
              (SS (Key.call 12 [] []))
          else
            bif (rs.getD 0 Dat.nilP).b == (rs_1.getD 0 Dat.nilP).b then bif decide ((↑l5.length : Int) > 200) then some (Res.ret false [4] [Dat.bool true] []) else none
            else bif decide ((↑l5.length : Int) > 200) then some (Res.ret false [4] [Dat.bool true] []) else some (Res.ret false [4] [Dat.bool false] []))
        (SS (Key.call 11 [AV.agg [AV.d (Dat.lst 83 l0), AV.d (Dat.int Go.IntKind.i64 n1), AV.d (Dat.int Go.IntKind.i64 n2), AV.d (Dat.int Go.IntKind.i64 n3), AV.d (Dat.lst 43 l4), AV.d (Dat.lst 86 l5)]] [])))
    (SS (Key.call 10 [AV.agg [AV.d (Dat.lst 83 l0), AV.d (Dat.int Go.IntKind.i64 n1), AV.d (Dat.int Go.IntKind.i64 n2), AV.d (Dat.int Go.IntKind.i64 n3), AV.d (Dat.lst 43 l4), AV.d (Dat.lst 86 l5)]] []))) = some r) :
  SS (Key.call 3 [AV.agg [AV.d (Dat.lst 83 l0), AV.d (Dat.int Go.IntKind.i64 n1), AV.d (Dat.int Go.IntKind.i64 n2), AV.d (Dat.int Go.IntKind.i64 n3), AV.d (Dat.lst 43 l4), AV.d (Dat.lst 86 l5)]] []) = some r := ssOf (by kernel_rfl) h

theorem c10 (l0 : List (List Dat)) (n1 : Int) (n2 : Int) (n3 : Int) (l4 : List (List Dat)) (l5 : List (List Dat)) {r : Res} (h :
  (bindR Out none false [4] [] (fun v => some (Res.panic v))
  (fun rs xs =>
    bif !(rs.getD 0 Dat.nilP).b then some (Res.ret false [4] [Dat.bool false] [])
    else
      bif decide (n1 < 1) then some (Res.ret false [4] [Dat.bool false] [])
      else
        bif decide (n1 > 64) then some (Res.ret false [4] [Dat.bool false] [])
        else
          bif decide (n2 < 1) then some (Res.ret false [4] [Dat.bool false] [])
          else
            bif decide (n3 < n2) then some (Res.ret false [4] [Dat.bool false] [])
            else
              bif decide (n3 > 1000000000) then some (Res.ret false [4] [Dat.bool false] [])
              else
                bif (↑l4.length : Int) != (↑l0.length : Int) then some (Res.ret false [4] [Dat.bool false] [])
                else
                  SS
                    (Key.pt 10 [] 58
                      { tmps := [(1, AV.ptr 1001 0), (50, AV.d (Dat.lst 43 l4)), (51, AV.d (Dat.int Go.IntKind.i64 (↑l4.length : Int))), (52, AV.d (Dat.int Go.IntKind.i64 0))],
                        boxes := [(1001, [AV.d (Dat.lst 83 l0), AV.d (Dat.int Go.IntKind.i64 n1), AV.d (Dat.int Go.IntKind.i64 n2), AV.d (Dat.int Go.IntKind.i64 n3), AV.d (Dat.lst 43 l4), AV.d (Dat.lst 86 l5)])] }))
  (SS (Key.call 34 [AV.d (Dat.lst 83 l0)] []))) = some r) :
  SS (Key.call 10 [AV.agg [AV.d (Dat.lst 83 l0), AV.d (Dat.int Go.IntKind.i64 n1), AV.d (Dat.int Go.IntKind.i64 n2), AV.d (Dat.int Go.IntKind.i64 n3), AV.d (Dat.lst 43 l4), AV.d (Dat.lst 86 l5)]] []) = some r := ssOf (by kernel_rfl) h

theorem c11 (l0 : List (List Dat)) (n1 : Int) (n2 : Int) (n3 : Int) (l4 : List (List Dat)) (l5 : List (List Dat)) {r : Res} (h :
  (bindR Out none false [4] [] (fun v => some (Res.panic v))
  (fun rs xs =>
    bif !(rs.getD 0 Dat.nilP).b then some (Res.ret false [4] [Dat.bool false] [])
    else
      bif decide (n1 < 1) then some (Res.ret false [4] [Dat.bool false] [])
      else
        bif decide (n1 > 64) then some (Res.ret false [4] [Dat.bool false] [])
        else
          bif decide (n2 < 1) then some (Res.ret false [4] [Dat.bool false] [])
          else
            bif decide (n2 > n3) then some (Res.ret false [4] [Dat.bool false] [])
            else
              bif decide (n3 > 1000000000) then some (Res.ret false [4] [Dat.bool false] [])
              else
                bif (↑l4.length : Int) != (↑l0.length : Int) then some (Res.ret false [4] [Dat.bool false] [])
                else
                  SS
                    (Key.pt 11 [] 58
                      { tmps := [(1, AV.ptr 1001 0), (3, AV.d (Dat.int Go.IntKind.i64 0))],
                        boxes := [(1001, [AV.d (Dat.lst 83 l0), AV.d (Dat.int Go.IntKind.i64 n1), AV.d (Dat.int Go.IntKind.i64 n2), AV.d (Dat.int Go.IntKind.i64 n3), AV.d (Dat.lst 43 l4), AV.d (Dat.lst 86 l5)])] }))
  (SS (Key.call 38 [AV.d (Dat.lst 83 l0)] []))) = some r) :
  SS (Key.call 11 [AV.agg [AV.d (Dat.lst 83 l0), AV.d (Dat.int Go.IntKind.i64 n1), AV.d (Dat.int Go.IntKind.i64 n2), AV.d (Dat.int Go.IntKind.i64 n3), AV.d (Dat.lst 43 l4), AV.d (Dat.lst 86 l5)]] []) = some r := ssOf (by kernel_rfl) h

theorem c34 (l0 : List (List Dat)) {r : Res} (h :
  (SS (Key.pt 34 [] 58 { tmps := [(0, AV.d (Dat.lst 83 l0)), (3, AV.own 1000115 []), (7, AV.d (Dat.lst 83 l0)), (8, AV.d (Dat.int Go.IntKind.i64 (↑l0.length : Int))), (9, AV.d (Dat.int Go.IntKind.i64 0))], boxes := [] })) = some r) :
  SS (Key.call 34 [AV.d (Dat.lst 83 l0)] []) = some r := ssOf (by kernel_rfl) h

theorem p10_58 (l0 : List (List Dat)) (n1 : Int) (n2 : Int) (l3 : List (List Dat)) (n4 : Int) (n5 : Int) (n6 : Int) (l7 : List (List Dat)) (l8 : List (List Dat)) {r : Res} (h :
  (bif decide (n2 < n1) then
  bif decide (0 ≤ n2) && decide (n2 < (↑l0.length : Int)) then
    bif decide (0 ≤ n2) && decide (n2 < (↑l3.length : Int)) then
      bindR Out none false [4] [] (fun v => some (Res.panic (9, v).snd))
        (fun rs xs =>
          bif !(rs.getD 0 Dat.nilP).b then some (Res.ret false [4] [Dat.bool false] [])
          else
            SS
              (Key.pt 10 [] 58
                { tmps := [(1, AV.ptr 1001 0), (50, AV.d (Dat.lst 43 l0)), (51, AV.d (Dat.int Go.IntKind.i64 n1)), (52, AV.d (Dat.int Go.IntKind.i64 (Go.IntKind.i64.wrap (n2 + 1))))],
                  boxes := [(1001, [AV.d (Dat.lst 83 l3), AV.d (Dat.int Go.IntKind.i64 n4), AV.d (Dat.int Go.IntKind.i64 n5), AV.d (Dat.int Go.IntKind.i64 n6), AV.d (Dat.lst 43 l7), AV.d (Dat.lst 86 l8)])] }))
        (SS
          (Key.call 35
            [AV.agg
                [AV.d (Dat.int Go.IntKind.i64 ((l0.getD n2.toNat []).getD 0 Dat.nilP).i), AV.d (Dat.int Go.IntKind.i64 ((l0.getD n2.toNat []).getD 1 Dat.nilP).i), AV.d (Dat.int Go.IntKind.i64 ((l0.getD n2.toNat []).getD 2 Dat.nilP).i),
                  AV.d (Dat.int Go.IntKind.i64 ((l0.getD n2.toNat []).getD 3 Dat.nilP).i), AV.d (Dat.str ((l0.getD n2.toNat []).getD 4 Dat.nilP).s), AV.d (Dat.lst 32 ((l0.getD n2.toNat []).getD 5 Dat.nilP).l),
                  AV.d (Dat.lst 9 ((l0.getD n2.toNat []).getD 6 Dat.nilP).l), AV.d (Dat.int Go.IntKind.i64 ((l0.getD n2.toNat []).getD 7 Dat.nilP).i), AV.d (Dat.int Go.IntKind.i64 ((l0.getD n2.toNat []).getD 8 Dat.nilP).i),
                  AV.d (Dat.str ((l0.getD n2.toNat []).getD 9 Dat.nilP).s), AV.d (Dat.lst 32 ((l0.getD n2.toNat []).getD 10 Dat.nilP).l), AV.d (Dat.lst 9 ((l0.getD n2.toNat []).getD 11 Dat.nilP).l)],
              AV.d (Dat.int Go.IntKind.i64 n4), AV.d (Dat.int Go.IntKind.i64 ((l3.getD n2.toNat []).getD 1 Dat.nilP).i)]
            []))
    else none
  else none
else
  SS
    (Key.pt 10 [] 250
      { tmps := [(1, AV.ptr 1001 0), (5, AV.own 1000085 []), (71, AV.d (Dat.lst 86 l8)), (72, AV.d (Dat.int Go.IntKind.i64 (↑l8.length : Int))), (73, AV.d (Dat.int Go.IntKind.i64 0))],
        boxes := [(1001, [AV.d (Dat.lst 83 l3), AV.d (Dat.int Go.IntKind.i64 n4), AV.d (Dat.int Go.IntKind.i64 n5), AV.d (Dat.int Go.IntKind.i64 n6), AV.d (Dat.lst 43 l7), AV.d (Dat.lst 86 l8)])] })) = some r) :
  SS (Key.pt 10 [] 58
  { tmps := [(1, AV.ptr 1001 0), (50, AV.d (Dat.lst 43 l0)), (51, AV.d (Dat.int Go.IntKind.i64 n1)), (52, AV.d (Dat.int Go.IntKind.i64 n2))],
    boxes := [(1001, [AV.d (Dat.lst 83 l3), AV.d (Dat.int Go.IntKind.i64 n4), AV.d (Dat.int Go.IntKind.i64 n5), AV.d (Dat.int Go.IntKind.i64 n6), AV.d (Dat.lst 43 l7), AV.d (Dat.lst 86 l8)])] }) = some r := ssOf (by kernel_rfl) h

theorem c38 (l0 : List (List Dat)) {r : Res} (h :
  (SS (Key.pt 38 [] 58 { tmps := [(0, AV.d (Dat.lst 83 l0)), (3, AV.own 9 []), (4, AV.d (Dat.int Go.IntKind.i64 0))], boxes := [] })) = some r) :
  SS (Key.call 38 [AV.d (Dat.lst 83 l0)] []) = some r := ssOf (by kernel_rfl) h

theorem p11_58 (n0 : Int) (l1 : List (List Dat)) (n2 : Int) (n3 : Int) (n4 : Int) (l5 : List (List Dat)) (l6 : List (List Dat)) {r : Res} (h :
  (bif decide (n0 < (↑l5.length : Int)) then
  bif decide (0 ≤ n0) && decide (n0 < (↑l5.length : Int)) then
    bif decide (0 ≤ n0) && decide (n0 < (↑l1.length : Int)) then
      bindR Out none false [4] [] (fun v => some (Res.panic (13, v).snd))
        (fun rs xs =>
          bif !(rs.getD 0 Dat.nilP).b then some (Res.ret false [4] [Dat.bool false] [])
          else
            SS
              (Key.pt 11 [] 58
                { tmps := [(1, AV.ptr 1001 0), (3, AV.d (Dat.int Go.IntKind.i64 (Go.IntKind.i64.wrap (n0 + 1))))],
                  boxes := [(1001, [AV.d (Dat.lst 83 l1), AV.d (Dat.int Go.IntKind.i64 n2), AV.d (Dat.int Go.IntKind.i64 n3), AV.d (Dat.int Go.IntKind.i64 n4), AV.d (Dat.lst 43 l5), AV.d (Dat.lst 86 l6)])] }))
        (SS
          (Key.call 39
            [AV.agg
                [AV.d (Dat.int Go.IntKind.i64 ((l5.getD n0.toNat []).getD 0 Dat.nilP).i), AV.d (Dat.int Go.IntKind.i64 ((l5.getD n0.toNat []).getD 1 Dat.nilP).i), AV.d (Dat.int Go.IntKind.i64 ((l5.getD n0.toNat []).getD 2 Dat.nilP).i),
                  AV.d (Dat.int Go.IntKind.i64 ((l5.getD n0.toNat []).getD 3 Dat.nilP).i), AV.d (Dat.str ((l5.getD n0.toNat []).getD 4 Dat.nilP).s), AV.d (Dat.lst 32 ((l5.getD n0.toNat []).getD 5 Dat.nilP).l),
                  AV.d (Dat.lst 9 ((l5.getD n0.toNat []).getD 6 Dat.nilP).l), AV.d (Dat.int Go.IntKind.i64 ((l5.getD n0.toNat []).getD 7 Dat.nilP).i), AV.d (Dat.int Go.IntKind.i64 ((l5.getD n0.toNat []).getD 8 Dat.nilP).i),
                  AV.d (Dat.str ((l5.getD n0.toNat []).getD 9 Dat.nilP).s), AV.d (Dat.lst 32 ((l5.getD n0.toNat []).getD 10 Dat.nilP).l), AV.d (Dat.lst 9 ((l5.getD n0.toNat []).getD 11 Dat.nilP).l)],
              AV.d (Dat.int Go.IntKind.i64 n2), AV.d (Dat.int Go.IntKind.i64 ((l1.getD n0.toNat []).getD 1 Dat.nilP).i)]
            []))
    else none
  else none
else
  SS
    (Key.pt 11 [] 250
      { tmps := [(1, AV.ptr 1001 0), (4, AV.d (Dat.int Go.IntKind.i64 0)), (5, AV.d (Dat.int Go.IntKind.i64 0))],
        boxes := [(1001, [AV.d (Dat.lst 83 l1), AV.d (Dat.int Go.IntKind.i64 n2), AV.d (Dat.int Go.IntKind.i64 n3), AV.d (Dat.int Go.IntKind.i64 n4), AV.d (Dat.lst 43 l5), AV.d (Dat.lst 86 l6)])] })) = some r) :
  SS (Key.pt 11 [] 58
  { tmps := [(1, AV.ptr 1001 0), (3, AV.d (Dat.int Go.IntKind.i64 n0))],
    boxes := [(1001, [AV.d (Dat.lst 83 l1), AV.d (Dat.int Go.IntKind.i64 n2), AV.d (Dat.int Go.IntKind.i64 n3), AV.d (Dat.int Go.IntKind.i64 n4), AV.d (Dat.lst 43 l5), AV.d (Dat.lst 86 l6)])] }) = some r := ssOf (by kernel_rfl) h

theorem p34_58 (l0 : List (List Dat)) (l1 : List (List Dat)) (l2 : List (List Dat)) (n3 : Int) (n4 : Int) {r : Res} (h :
  (bif decide (n4 < n3) then
  bif decide (0 ≤ n4) && decide (n4 < (↑l2.length : Int)) then
    bindR Out none false [4] [] (fun v => some (Res.panic v))
      (fun rs xs =>
        bif !(rs.getD 0 Dat.nilP).b then some (Res.ret false [4] [Dat.bool false] [])
        else
          bif ((mapVal (Dat.str ((l2.getD n4.toNat []).getD 0 Dat.nilP).s) [Dat.bool false] (3, l1).snd).getD 0 Dat.nilP).b then some (Res.ret false [4] [Dat.bool false] [])
          else
            bif decide (((l2.getD n4.toNat []).getD 1 Dat.nilP).i < 1) then some (Res.ret false [4] [Dat.bool false] [])
            else
              bif decide (((l2.getD n4.toNat []).getD 1 Dat.nilP).i > 4) then some (Res.ret false [4] [Dat.bool false] [])
              else
                SS
                  (Key.pt 34 [] 58
                    {
                      tmps :=
                        [(0, AV.d (Dat.lst 83 l0)), (3, AV.own 1000115 (mapPut (Dat.str ((l2.getD n4.toNat []).getD 0 Dat.nilP).s) [Dat.bool true] (3, l1).snd)), (7, AV.d (Dat.lst 83 l2)), (8, AV.d (Dat.int Go.IntKind.i64 n3)),
                          (9, AV.d (Dat.int Go.IntKind.i64 (Go.IntKind.i64.wrap (n4 + 1))))],
                      boxes := [] }))
      (SS (Key.call 68 [AV.d (Dat.str ((l2.getD n4.toNat []).getD 0 Dat.nilP).s)] []))
  else none
else bif decide ((↑l0.length : Int) > 0) then some (Res.ret false [4] [Dat.bool (decide ((↑l0.length : Int) ≤ 8))] []) else some (Res.ret false [4] [Dat.bool false] [])) = some r) :
  SS (Key.pt 34 [] 58 { tmps := [(0, AV.d (Dat.lst 83 l0)), (3, AV.own 1000115 l1), (7, AV.d (Dat.lst 83 l2)), (8, AV.d (Dat.int Go.IntKind.i64 n3)), (9, AV.d (Dat.int Go.IntKind.i64 n4))], boxes := [] }) = some r := ssOf (by kernel_rfl) h

theorem c35 (n0 : Int) (n1 : Int) (n2 : Int) (n3 : Int) (s4 : List UInt8) (l5 : List (List Dat)) (l6 : List (List Dat)) (n7 : Int) (n8 : Int) (s9 : List UInt8) (l10 : List (List Dat)) (l11 : List (List Dat)) (n12 : Int) (n13 : Int) {r : Res} (h :
  (bif n0 != n12 then some (Res.ret false [4] [Dat.bool false] [])
else
  bif decide (n1 < 0) then some (Res.ret false [4] [Dat.bool false] [])
  else
    bif decide (n1 > n12) then some (Res.ret false [4] [Dat.bool false] [])
    else
      bindR Out none false [4] [] (fun v => some (Res.panic v))
        (fun rs xs =>
          bif !(rs.getD 0 Dat.nilP).b then some (Res.ret false [4] [Dat.bool false] [])
          else
            bindR Out none false [4] [] (fun v => some (Res.panic v))
              (fun rs xs =>
                bif !(rs.getD 0 Dat.nilP).b then some (Res.ret false [4] [Dat.bool false] [])
                else
                  bif n1 == n12 then bif n2 == 0 then some (Res.ret false [4] [Dat.bool (n7 == 0)] []) else some (Res.ret false [4] [Dat.bool false] [])
                  else
                    bif n2 != 0 then
                      bif n7 != 0 then
                        bindR Out none false [3] [] (fun v => some (Res.panic v)) (fun rs xs => some (Res.ret false [4] [Dat.bool (decide ((rs.getD 0 Dat.nilP).i ≤ 0))] []))
                          (SS
                            (Key.call 70
                              [AV.agg [AV.d (Dat.int Go.IntKind.i64 n2), AV.d (Dat.int Go.IntKind.i64 n3), AV.d (Dat.str s4), AV.d (Dat.lst 32 l5), AV.d (Dat.lst 9 l6)],
                                AV.agg [AV.d (Dat.int Go.IntKind.i64 n7), AV.d (Dat.int Go.IntKind.i64 n8), AV.d (Dat.str s9), AV.d (Dat.lst 32 l10), AV.d (Dat.lst 9 l11)]]
                              []))
                      else some (Res.ret false [4] [Dat.bool false] [])
                    else some (Res.ret false [4] [Dat.bool false] []))
              (SS (Key.call 69 [AV.agg [AV.d (Dat.int Go.IntKind.i64 n7), AV.d (Dat.int Go.IntKind.i64 n8), AV.d (Dat.str s9), AV.d (Dat.lst 32 l10), AV.d (Dat.lst 9 l11)], AV.d (Dat.int Go.IntKind.i64 n13)] [])))
        (SS (Key.call 69 [AV.agg [AV.d (Dat.int Go.IntKind.i64 n2), AV.d (Dat.int Go.IntKind.i64 n3), AV.d (Dat.str s4), AV.d (Dat.lst 32 l5), AV.d (Dat.lst 9 l6)], AV.d (Dat.int Go.IntKind.i64 n13)] []))) = some r) :
  SS (Key.call 35
  [AV.agg
      [AV.d (Dat.int Go.IntKind.i64 n0), AV.d (Dat.int Go.IntKind.i64 n1), AV.d (Dat.int Go.IntKind.i64 n2), AV.d (Dat.int Go.IntKind.i64 n3), AV.d (Dat.str s4), AV.d (Dat.lst 32 l5), AV.d (Dat.lst 9 l6), AV.d (Dat.int Go.IntKind.i64 n7),
        AV.d (Dat.int Go.IntKind.i64 n8), AV.d (Dat.str s9), AV.d (Dat.lst 32 l10), AV.d (Dat.lst 9 l11)],
    AV.d (Dat.int Go.IntKind.i64 n12), AV.d (Dat.int Go.IntKind.i64 n13)]
  []) = some r := ssOf (by kernel_rfl) h

theorem p10_250 (l0 : List (List Dat)) (l1 : List (List Dat)) (n2 : Int) (n3 : Int) (l4 : List (List Dat)) (n5 : Int) (n6 : Int) (n7 : Int) (l8 : List (List Dat)) (l9 : List (List Dat)) {r : Res} (h :
  (bif decide (n3 < n2) then
  bif decide (0 ≤ n3) && decide (n3 < (↑l1.length : Int)) then
    bindR Out none false [4] [] (fun v => some (Res.panic v))
      (fun rs xs =>
        bif !(rs.getD 0 Dat.nilP).b then some (Res.ret false [4] [Dat.bool false] [])
        else
          bif decide (n3 > 0) then
            bif decide (0 ≤ Go.IntKind.i64.wrap (n3 - 1)) && decide (Go.IntKind.i64.wrap (n3 - 1) < (↑l9.length : Int)) then
              bif decide (((l9.getD (Go.IntKind.i64.wrap (n3 - 1)).toNat []).getD 0 Dat.nilP).i > ((l1.getD n3.toNat []).getD 0 Dat.nilP).i) then some (Res.ret false [4] [Dat.bool false] [])
              else
                bif ((l9.getD (Go.IntKind.i64.wrap (n3 - 1)).toNat []).getD 0 Dat.nilP).i == ((l1.getD n3.toNat []).getD 0 Dat.nilP).i then
                  bindR Out none false [3] [] (fun v => some (Res.panic v))
                    (fun rs xs =>
                      bif decide ((rs.getD 0 Dat.nilP).i ≥ 0) then some (Res.ret false [4] [Dat.bool false] [])
                      else
                        bif
                            decide
                              (((mapVal (Dat.int Go.IntKind.i64 ((l1.getD n3.toNat []).getD 0 Dat.nilP).i) [Dat.int Go.IntKind.i64 0]
                                        (5,
                                            mapPut (Dat.int Go.IntKind.i64 ((l1.getD n3.toNat []).getD 0 Dat.nilP).i)
                                              [Dat.int Go.IntKind.i64 (Go.IntKind.i64.wrap (((mapVal (Dat.int Go.IntKind.i64 ((l1.getD n3.toNat []).getD 0 Dat.nilP).i) [Dat.int Go.IntKind.i64 0] (5, l0).snd).getD 0 Dat.nilP).i + 1))]
                                              (5, l0).snd).snd).getD
                                    0 Dat.nilP).i >
                                8) then
                          some (Res.ret false [4] [Dat.bool false] [])
                        else
                          SS
                            (Key.pt 10 [] 250
                              {
                                tmps :=
                                  [(1, AV.ptr 1001 0),
                                    (5,
                                      AV.own 1000085
                                        (mapPut (Dat.int Go.IntKind.i64 ((l1.getD n3.toNat []).getD 0 Dat.nilP).i)
                                          [Dat.int Go.IntKind.i64 (Go.IntKind.i64.wrap (((mapVal (Dat.int Go.IntKind.i64 ((l1.getD n3.toNat []).getD 0 Dat.nilP).i) [Dat.int Go.IntKind.i64 0] (5, l0).snd).getD 0 Dat.nilP).i + 1))]
                                          (5, l0).snd)),
                                    (71, AV.d (Dat.lst 86 l1)), (72, AV.d (Dat.int Go.IntKind.i64 n2)), (73, AV.d (Dat.int Go.IntKind.i64 (Go.IntKind.i64.wrap (n3 + 1))))],
                                boxes := [(1001, [AV.d (Dat.lst 83 l4), AV.d (Dat.int Go.IntKind.i64 n5), AV.d (Dat.int Go.IntKind.i64 n6), AV.d (Dat.int Go.IntKind.i64 n7), AV.d (Dat.lst 43 l8), AV.d (Dat.lst 86 l9)])] }))
                    (SS (Key.call 37 [AV.d (Dat.lst 119 ((l9.getD (Go.IntKind.i64.wrap (n3 - 1)).toNat []).getD 1 Dat.nilP).l), AV.d (Dat.lst 119 ((l1.getD n3.toNat []).getD 1 Dat.nilP).l)] []))
                else
                  bif
                      decide
                        (((mapVal (Dat.int Go.IntKind.i64 ((l1.getD n3.toNat []).getD 0 Dat.nilP).i) [Dat.int Go.IntKind.i64 0]
                                  (5,
                                      mapPut (Dat.int Go.IntKind.i64 ((l1.getD n3.toNat []).getD 0 Dat.nilP).i)
                                        [Dat.int Go.IntKind.i64 (Go.IntKind.i64.wrap (((mapVal (Dat.int Go.IntKind.i64 ((l1.getD n3.toNat []).getD 0 Dat.nilP).i) [Dat.int Go.IntKind.i64 0] (5, l0).snd).getD 0 Dat.nilP).i + 1))]
                                        (5, l0).snd).snd).getD
                              0 Dat.nilP).i >
                          8) then
                    some (Res.ret false [4] [Dat.bool false] [])
                  else
                    SS
                      (Key.pt 10 [] 250
                        {
                          tmps :=
                            [(1, AV.ptr 1001 0),
                              (5,
                                AV.own 1000085
                                  (mapPut (Dat.int Go.IntKind.i64 ((l1.getD n3.toNat []).getD 0 Dat.nilP).i)
                                    [Dat.int Go.IntKind.i64 (Go.IntKind.i64.wrap (((mapVal (Dat.int Go.IntKind.i64 ((l1.getD n3.toNat []).getD 0 Dat.nilP).i) [Dat.int Go.IntKind.i64 0] (5, l0).snd).getD 0 Dat.nilP).i + 1))] (5, l0).snd)),
                              (71, AV.d (Dat.lst 86 l1)), (72, AV.d (Dat.int Go.IntKind.i64 n2)), (73, AV.d (Dat.int Go.IntKind.i64 (Go.IntKind.i64.wrap (n3 + 1))))],
                          boxes := [(1001, [AV.d (Dat.lst 83 l4), AV.d (Dat.int Go.IntKind.i64 n5), AV.d (Dat.int Go.IntKind.i64 n6), AV.d (Dat.int Go.IntKind.i64 n7), AV.d (Dat.lst 43 l8), AV.d (Dat.lst 86 l9)])] })
            else none
          else
            bif
                decide
                  (((mapVal (Dat.int Go.IntKind.i64 ((l1.getD n3.toNat []).getD 0 Dat.nilP).i) [Dat.int Go.IntKind.i64 0]
                            (5,
                                mapPut (Dat.int Go.IntKind.i64 ((l1.getD n3.toNat []).getD 0 Dat.nilP).i)
                                  [Dat.int Go.IntKind.i64 (Go.IntKind.i64.wrap (((mapVal (Dat.int Go.IntKind.i64 ((l1.getD n3.toNat []).getD 0 Dat.nilP).i) [Dat.int Go.IntKind.i64 0] (5, l0).snd).getD 0 Dat.nilP).i + 1))]
                                  (5, l0).snd).snd).getD
                        0 Dat.nilP).i >
                    8) then
              some (Res.ret false [4] [Dat.bool false] [])
            else
              SS
                (Key.pt 10 [] 250
                  {
                    tmps :=
                      [(1, AV.ptr 1001 0),
                        (5,
                          AV.own 1000085
                            (mapPut (Dat.int Go.IntKind.i64 ((l1.getD n3.toNat []).getD 0 Dat.nilP).i)
                              [Dat.int Go.IntKind.i64 (Go.IntKind.i64.wrap (((mapVal (Dat.int Go.IntKind.i64 ((l1.getD n3.toNat []).getD 0 Dat.nilP).i) [Dat.int Go.IntKind.i64 0] (5, l0).snd).getD 0 Dat.nilP).i + 1))] (5, l0).snd)),
                        (71, AV.d (Dat.lst 86 l1)), (72, AV.d (Dat.int Go.IntKind.i64 n2)), (73, AV.d (Dat.int Go.IntKind.i64 (Go.IntKind.i64.wrap (n3 + 1))))],
                    boxes := [(1001, [AV.d (Dat.lst 83 l4), AV.d (Dat.int Go.IntKind.i64 n5), AV.d (Dat.int Go.IntKind.i64 n6), AV.d (Dat.int Go.IntKind.i64 n7), AV.d (Dat.lst 43 l8), AV.d (Dat.lst 86 l9)])] }))
      (SS
        (Key.call 36
          [AV.agg [AV.d (Dat.lst 83 l4), AV.d (Dat.int Go.IntKind.i64 n5), AV.d (Dat.int Go.IntKind.i64 n6), AV.d (Dat.int Go.IntKind.i64 n7), AV.d (Dat.lst 43 l8), AV.d (Dat.lst 86 l9)],
            AV.agg
              [AV.d (Dat.int Go.IntKind.i64 ((l1.getD n3.toNat []).getD 0 Dat.nilP).i), AV.d (Dat.lst 119 ((l1.getD n3.toNat []).getD 1 Dat.nilP).l), AV.d (Dat.int Go.IntKind.i64 ((l1.getD n3.toNat []).getD 2 Dat.nilP).i),
                AV.d (Dat.int Go.IntKind.i64 ((l1.getD n3.toNat []).getD 3 Dat.nilP).i), AV.d (Dat.int Go.IntKind.i64 ((l1.getD n3.toNat []).getD 4 Dat.nilP).i), AV.d (Dat.int Go.IntKind.i64 ((l1.getD n3.toNat []).getD 5 Dat.nilP).i),
                AV.d (Dat.str ((l1.getD n3.toNat []).getD 6 Dat.nilP).s), AV.d (Dat.lst 32 ((l1.getD n3.toNat []).getD 7 Dat.nilP).l), AV.d (Dat.lst 9 ((l1.getD n3.toNat []).getD 8 Dat.nilP).l),
                AV.d (Dat.int Go.IntKind.i64 ((l1.getD n3.toNat []).getD 9 Dat.nilP).i), AV.d (Dat.int Go.IntKind.i64 ((l1.getD n3.toNat []).getD 10 Dat.nilP).i), AV.d (Dat.str ((l1.getD n3.toNat []).getD 11 Dat.nilP).s),
                AV.d (Dat.lst 32 ((l1.getD n3.toNat []).getD 12 Dat.nilP).l), AV.d (Dat.lst 9 ((l1.getD n3.toNat []).getD 13 Dat.nilP).l)]]
          []))
  else none
else some (Res.ret false [4] [Dat.bool true] [])) = some r) :
  SS (Key.pt 10 [] 250
  { tmps := [(1, AV.ptr 1001 0), (5, AV.own 1000085 l0), (71, AV.d (Dat.lst 86 l1)), (72, AV.d (Dat.int Go.IntKind.i64 n2)), (73, AV.d (Dat.int Go.IntKind.i64 n3))],
    boxes := [(1001, [AV.d (Dat.lst 83 l4), AV.d (Dat.int Go.IntKind.i64 n5), AV.d (Dat.int Go.IntKind.i64 n6), AV.d (Dat.int Go.IntKind.i64 n7), AV.d (Dat.lst 43 l8), AV.d (Dat.lst 86 l9)])] }) = some r := ssOf (by kernel_rfl) h

theorem p38_58 (l0 : List (List Dat)) (l1 : List (List Dat)) (n2 : Int) {r : Res} (h :
  (bif decide (n2 < (↑l0.length : Int)) then
  bif decide (n2 ≤ 8) then
    bif decide (0 ≤ n2) && decide (n2 < (↑l0.length : Int)) then
      bif decide (((l0.getD n2.toNat []).getD 1 Dat.nilP).i < 1) then some (Res.ret false [4] [Dat.bool false] [])
      else
        bif decide (0 ≤ n2) && decide (n2 < (↑l0.length : Int)) then
          bif decide (((l0.getD n2.toNat []).getD 1 Dat.nilP).i > 4) then some (Res.ret false [4] [Dat.bool false] [])
          else
            bif decide (0 ≤ n2) && decide (n2 < (↑l0.length : Int)) then
              bif Nat.beq 9 9 && decide ((l1.length + (9, [[Dat.str ((l0.getD n2.toNat []).getD 0 Dat.nilP).s]]).snd.length) * 16 ≤ 140737488355328) then
                SS
                  (Key.pt 38 [] 58
                    { tmps := [(0, AV.d (Dat.lst 83 l0)), (3, AV.own 9 (l1 ++ (9, [[Dat.str ((l0.getD n2.toNat []).getD 0 Dat.nilP).s]]).snd)), (4, AV.d (Dat.int Go.IntKind.i64 (Go.IntKind.i64.wrap (n2 + 1))))], boxes := [] })
              else none
            else none
        else none
    else none
  else
    bif decide ((↑l0.length : Int) ≥ 1) then
      bif decide ((↑l0.length : Int) ≤ 8) then bindR Out none false [4] [] (fun v => some (Res.panic v)) (fun rs xs => some (Res.ret false [4] [Dat.bool (rs.getD 0 Dat.nilP).b] [])) (SS (Key.call 79 [AV.d (Dat.lst 9 l1)] []))
      else some (Res.ret false [4] [Dat.bool false] [])
    else some (Res.ret false [4] [Dat.bool false] [])
else
  bif decide ((↑l0.length : Int) ≥ 1) then
    bif decide ((↑l0.length : Int) ≤ 8) then bindR Out none false [4] [] (fun v => some (Res.panic v)) (fun rs xs => some (Res.ret false [4] [Dat.bool (rs.getD 0 Dat.nilP).b] [])) (SS (Key.call 79 [AV.d (Dat.lst 9 l1)] []))
    else some (Res.ret false [4] [Dat.bool false] [])
  else some (Res.ret false [4] [Dat.bool false] [])) = some r) :
  SS (Key.pt 38 [] 58 { tmps := [(0, AV.d (Dat.lst 83 l0)), (3, AV.own 9 l1), (4, AV.d (Dat.int Go.IntKind.i64 n2))], boxes := [] }) = some r := ssOf (by kernel_rfl) h

theorem c39 (n0 : Int) (n1 : Int) (n2 : Int) (n3 : Int) (s4 : List UInt8) (l5 : List (List Dat)) (l6 : List (List Dat)) (n7 : Int) (n8 : Int) (s9 : List UInt8) (l10 : List (List Dat)) (l11 : List (List Dat)) (n12 : Int) (n13 : Int) {r : Res} (h :
  (bif n0 != n12 then some (Res.ret false [4] [Dat.bool false] [])
else
  bif decide (n1 < 0) then some (Res.ret false [4] [Dat.bool false] [])
  else
    bif decide (n1 > n12) then some (Res.ret false [4] [Dat.bool false] [])
    else
      bif n1 == n12 then
        bindR Out none false [32] [] (fun v => some (Res.panic (2, v).snd))
          (fun rs xs =>
            bindR Out none false [4] [] (fun v => some (Res.panic (3, v).snd))
              (fun rs xs =>
                bif (rs.getD 0 Dat.nilP).b then
                  bindR Out none false [32] [] (fun v => some (Res.panic (7, v).snd))
                    (fun rs_1 xs =>
                      bindR Out none false [4] [] (fun v => some (Res.panic (8, v).snd))
                        (fun rs_2 xs => bif (rs.getD 0 Dat.nilP).b then some (Res.ret false [4] [Dat.bool (rs_2.getD 0 Dat.nilP).b] []) else some (Res.ret false [4] [Dat.bool false] []))
                        (SS
                          (Key.call 80
                            [AV.agg [AV.d (Dat.int Go.IntKind.i64 n7), AV.d (Dat.int Go.IntKind.i64 n8), AV.d (Dat.str s9), AV.d (Dat.lst 32 l10), AV.d (Dat.lst 9 l11)],
                              AV.agg
                                [AV.d (Dat.int Go.IntKind.i64 (rs_1.getD 0 Dat.nilP).i), AV.d (Dat.int Go.IntKind.i64 (rs_1.getD 1 Dat.nilP).i), AV.d (Dat.str (rs_1.getD 2 Dat.nilP).s), AV.d (Dat.lst 32 (rs_1.getD 3 Dat.nilP).l),
                                  AV.d (Dat.lst 9 (rs_1.getD 4 Dat.nilP).l)]]
                            [])))
                    (SS (Key.call 81 [] []))
                else bif (rs.getD 0 Dat.nilP).b then none else some (Res.ret false [4] [Dat.bool false] []))
              (SS
                (Key.call 80
                  [AV.agg [AV.d (Dat.int Go.IntKind.i64 n2), AV.d (Dat.int Go.IntKind.i64 n3), AV.d (Dat.str s4), AV.d (Dat.lst 32 l5), AV.d (Dat.lst 9 l6)],
                    AV.agg
                      [AV.d (Dat.int Go.IntKind.i64 (rs.getD 0 Dat.nilP).i), AV.d (Dat.int Go.IntKind.i64 (rs.getD 1 Dat.nilP).i), AV.d (Dat.str (rs.getD 2 Dat.nilP).s), AV.d (Dat.lst 32 (rs.getD 3 Dat.nilP).l),
                        AV.d (Dat.lst 9 (rs.getD 4 Dat.nilP).l)]]
                  [])))
          (SS (Key.call 81 [] []))
      else
        bindR Out none false [4] [] (fun v => some (Res.panic v))
          (fun rs xs =>
            bif (rs.getD 0 Dat.nilP).b then
              bindR Out none false [4] [] (fun v => some (Res.panic v))
                (fun rs xs =>
                  bif (rs.getD 0 Dat.nilP).b then
                    bif n2 != 0 then
                      bif n7 != 0 then
                        bindR Out none false [3] [] (fun v => some (Res.panic v)) (fun rs xs => some (Res.ret false [4] [Dat.bool (decide ((rs.getD 0 Dat.nilP).i ≤ 0))] []))
                          (SS
                            (Key.call 30
                              [AV.agg [AV.d (Dat.int Go.IntKind.i64 n2), AV.d (Dat.int Go.IntKind.i64 n3), AV.d (Dat.str s4), AV.d (Dat.lst 32 l5), AV.d (Dat.lst 9 l6)],
                                AV.agg [AV.d (Dat.int Go.IntKind.i64 n7), AV.d (Dat.int Go.IntKind.i64 n8), AV.d (Dat.str s9), AV.d (Dat.lst 32 l10), AV.d (Dat.lst 9 l11)]]
                              []))
                      else some (Res.ret false [4] [Dat.bool false] [])
                    else some (Res.ret false [4] [Dat.bool false] [])
                  else some (Res.ret false [4] [Dat.bool false] []))
                (SS (Key.call 82 [AV.agg [AV.d (Dat.int Go.IntKind.i64 n7), AV.d (Dat.int Go.IntKind.i64 n8), AV.d (Dat.str s9), AV.d (Dat.lst 32 l10), AV.d (Dat.lst 9 l11)], AV.d (Dat.int Go.IntKind.i64 n13)] []))
            else some (Res.ret false [4] [Dat.bool false] []))
          (SS (Key.call 82 [AV.agg [AV.d (Dat.int Go.IntKind.i64 n2), AV.d (Dat.int Go.IntKind.i64 n3), AV.d (Dat.str s4), AV.d (Dat.lst 32 l5), AV.d (Dat.lst 9 l6)], AV.d (Dat.int Go.IntKind.i64 n13)] []))) = some r) :
  SS (Key.call 39
  [AV.agg
      [AV.d (Dat.int Go.IntKind.i64 n0), AV.d (Dat.int Go.IntKind.i64 n1), AV.d (Dat.int Go.IntKind.i64 n2), AV.d (Dat.int Go.IntKind.i64 n3), AV.d (Dat.str s4), AV.d (Dat.lst 32 l5), AV.d (Dat.lst 9 l6), AV.d (Dat.int Go.IntKind.i64 n7),
        AV.d (Dat.int Go.IntKind.i64 n8), AV.d (Dat.str s9), AV.d (Dat.lst 32 l10), AV.d (Dat.lst 9 l11)],
    AV.d (Dat.int Go.IntKind.i64 n12), AV.d (Dat.int Go.IntKind.i64 n13)]
  []) = some r := ssOf (by kernel_rfl) h

theorem p11_250 (n0 : Int) (n1 : Int) (l2 : List (List Dat)) (n3 : Int) (n4 : Int) (n5 : Int) (l6 : List (List Dat)) (l7 : List (List Dat)) {r : Res} (h :
  (bif decide (n1 < (↑l7.length : Int)) then
  bif decide (0 ≤ n1) && decide (n1 < (↑l7.length : Int)) then
    bif decide (((l7.getD n1.toNat []).getD 0 Dat.nilP).i < 0) then some (Res.ret false [4] [Dat.bool false] [])
    else
      bif decide (((l7.getD n1.toNat []).getD 0 Dat.nilP).i ≥ (↑l2.length : Int)) then some (Res.ret false [4] [Dat.bool false] [])
      else
        bif decide (0 ≤ ((l7.getD n1.toNat []).getD 0 Dat.nilP).i) && decide (((l7.getD n1.toNat []).getD 0 Dat.nilP).i < (↑l2.length : Int)) then
          bif ((l2.getD ((l7.getD n1.toNat []).getD 0 Dat.nilP).i.toNat []).getD 1 Dat.nilP).i != 4 then some (Res.ret false [4] [Dat.bool false] [])
          else
            bindR Out none false [4] [] (fun v => some (Res.panic v))
              (fun rs xs =>
                bif !(rs.getD 0 Dat.nilP).b then some (Res.ret false [4] [Dat.bool false] [])
                else
                  bindR Out none false [4] [] (fun v => some (Res.panic v))
                    (fun rs xs =>
                      bif !(rs.getD 0 Dat.nilP).b then some (Res.ret false [4] [Dat.bool false] [])
                      else
                        SS
                          (Key.pt 11 [] 16019
                            { tmps := [(1, AV.ptr 1001 0), (4, AV.d (Dat.int Go.IntKind.i64 n0)), (5, AV.d (Dat.int Go.IntKind.i64 n1)), (6, AV.ptr 1006 0)],
                              boxes :=
                                [(1001, [AV.d (Dat.lst 83 l2), AV.d (Dat.int Go.IntKind.i64 n3), AV.d (Dat.int Go.IntKind.i64 n4), AV.d (Dat.int Go.IntKind.i64 n5), AV.d (Dat.lst 43 l6), AV.d (Dat.lst 86 l7)]),
                                  (1006,
                                    [AV.d (Dat.int Go.IntKind.i64 ((l7.getD n1.toNat []).getD 0 Dat.nilP).i), AV.d (Dat.lst 119 ((l7.getD n1.toNat []).getD 1 Dat.nilP).l),
                                      AV.d (Dat.int Go.IntKind.i64 ((l7.getD n1.toNat []).getD 2 Dat.nilP).i), AV.d (Dat.int Go.IntKind.i64 ((l7.getD n1.toNat []).getD 3 Dat.nilP).i),
                                      AV.d (Dat.int Go.IntKind.i64 ((l7.getD n1.toNat []).getD 4 Dat.nilP).i), AV.d (Dat.int Go.IntKind.i64 ((l7.getD n1.toNat []).getD 5 Dat.nilP).i),
                                      AV.d (Dat.str ((l7.getD n1.toNat []).getD 6 Dat.nilP).s), AV.d (Dat.lst 32 ((l7.getD n1.toNat []).getD 7 Dat.nilP).l), AV.d (Dat.lst 9 ((l7.getD n1.toNat []).getD 8 Dat.nilP).l),
                                      AV.d (Dat.int Go.IntKind.i64 ((l7.getD n1.toNat []).getD 9 Dat.nilP).i), AV.d (Dat.int Go.IntKind.i64 ((l7.getD n1.toNat []).getD 10 Dat.nilP).i),
                                      AV.d (Dat.str ((l7.getD n1.toNat []).getD 11 Dat.nilP).s), AV.d (Dat.lst 32 ((l7.getD n1.toNat []).getD 12 Dat.nilP).l), AV.d (Dat.lst 9 ((l7.getD n1.toNat []).getD 13 Dat.nilP).l)])] }))
                    (SS
                      (Key.call 39
                        [AV.agg
                            [AV.d (Dat.int Go.IntKind.i64 ((l7.getD n1.toNat []).getD 2 Dat.nilP).i), AV.d (Dat.int Go.IntKind.i64 ((l7.getD n1.toNat []).getD 3 Dat.nilP).i),
                              AV.d (Dat.int Go.IntKind.i64 ((l7.getD n1.toNat []).getD 4 Dat.nilP).i), AV.d (Dat.int Go.IntKind.i64 ((l7.getD n1.toNat []).getD 5 Dat.nilP).i), AV.d (Dat.str ((l7.getD n1.toNat []).getD 6 Dat.nilP).s),
                              AV.d (Dat.lst 32 ((l7.getD n1.toNat []).getD 7 Dat.nilP).l), AV.d (Dat.lst 9 ((l7.getD n1.toNat []).getD 8 Dat.nilP).l), AV.d (Dat.int Go.IntKind.i64 ((l7.getD n1.toNat []).getD 9 Dat.nilP).i),
                              AV.d (Dat.int Go.IntKind.i64 ((l7.getD n1.toNat []).getD 10 Dat.nilP).i), AV.d (Dat.str ((l7.getD n1.toNat []).getD 11 Dat.nilP).s), AV.d (Dat.lst 32 ((l7.getD n1.toNat []).getD 12 Dat.nilP).l),
                              AV.d (Dat.lst 9 ((l7.getD n1.toNat []).getD 13 Dat.nilP).l)],
                          AV.d (Dat.int Go.IntKind.i64 n3), AV.d (Dat.int Go.IntKind.i64 4)]
                        [])))
              (SS (Key.call 40 [AV.d (Dat.lst 119 ((l7.getD n1.toNat []).getD 1 Dat.nilP).l)] []))
        else none
  else none
else some (Res.ret false [4] [Dat.bool true] [])) = some r) :
  SS (Key.pt 11 [] 250
  { tmps := [(1, AV.ptr 1001 0), (4, AV.d (Dat.int Go.IntKind.i64 n0)), (5, AV.d (Dat.int Go.IntKind.i64 n1))],
    boxes := [(1001, [AV.d (Dat.lst 83 l2), AV.d (Dat.int Go.IntKind.i64 n3), AV.d (Dat.int Go.IntKind.i64 n4), AV.d (Dat.int Go.IntKind.i64 n5), AV.d (Dat.lst 43 l6), AV.d (Dat.lst 86 l7)])] }) = some r := ssOf (by kernel_rfl) h

theorem c68 (s0 : List UInt8) {r : Res} (h :
  (SS (Key.pt 68 [] 26 { tmps := [(0, AV.d (Dat.str s0)), (6, AV.d (Dat.int Go.IntKind.i64 (↑s0.length : Int))), (7, AV.d (Dat.int Go.IntKind.i64 0))], boxes := [] })) = some r) :
  SS (Key.call 68 [AV.d (Dat.str s0)] []) = some r := ssOf (by kernel_rfl) h

theorem c69 (n0 : Int) (n1 : Int) (s2 : List UInt8) (l3 : List (List Dat)) (l4 : List (List Dat)) (n5 : Int) {r : Res} (h :
  (bif decide (n5 < 1) then some (Res.ret false [4] [Dat.bool false] [])
else
  bif decide (n5 > 4) then some (Res.ret false [4] [Dat.bool false] [])
  else
    bindR Out none false [4] [] (fun v => some (Res.panic v))
      (fun rs xs =>
        bif !(rs.getD 0 Dat.nilP).b then some (Res.ret false [4] [Dat.bool false] [])
        else bif n5 == 4 then some (Res.ret false [4] [Dat.bool true] []) else bif n0 == 0 then some (Res.ret false [4] [Dat.bool true] []) else some (Res.ret false [4] [Dat.bool (n0 == n5)] []))
      (SS (Key.call 129 [AV.agg [AV.d (Dat.int Go.IntKind.i64 n0), AV.d (Dat.int Go.IntKind.i64 n1), AV.d (Dat.str s2), AV.d (Dat.lst 32 l3), AV.d (Dat.lst 9 l4)]] []))) = some r) :
  SS (Key.call 69 [AV.agg [AV.d (Dat.int Go.IntKind.i64 n0), AV.d (Dat.int Go.IntKind.i64 n1), AV.d (Dat.str s2), AV.d (Dat.lst 32 l3), AV.d (Dat.lst 9 l4)], AV.d (Dat.int Go.IntKind.i64 n5)] []) = some r := ssOf (by kernel_rfl) h

theorem c70 (n0 : Int) (n1 : Int) (s2 : List UInt8) (l3 : List (List Dat)) (l4 : List (List Dat)) (n5 : Int) (n6 : Int) (s7 : List UInt8) (l8 : List (List Dat)) (l9 : List (List Dat)) {r : Res} (h :
  (bif n0 != n5 then
  bindR Out none false [3] [] (fun v => some (Res.panic v)) (fun rs xs => some (Res.ret false [3] [Dat.int Go.IntKind.i64 (rs.getD 0 Dat.nilP).i] []))
    (SS (Key.call 76 [AV.d (Dat.int Go.IntKind.i64 n0), AV.d (Dat.int Go.IntKind.i64 n5)] []))
else
  SS
    (Key.pt 70 [] 58
      { tmps := [(2, AV.ptr 1002 0), (3, AV.ptr 1003 0), (23, AV.d (Dat.int Go.IntKind.i64 (if (↑l8.length : Int) < (↑l3.length : Int) then (↑l8.length : Int) else (↑l3.length : Int)))), (24, AV.d (Dat.int Go.IntKind.i64 0))],
        boxes :=
          [(1002, [AV.d (Dat.int Go.IntKind.i64 n0), AV.d (Dat.int Go.IntKind.i64 n1), AV.d (Dat.str s2), AV.d (Dat.lst 32 l3), AV.d (Dat.lst 9 l4)]),
            (1003, [AV.d (Dat.int Go.IntKind.i64 n5), AV.d (Dat.int Go.IntKind.i64 n6), AV.d (Dat.str s7), AV.d (Dat.lst 32 l8), AV.d (Dat.lst 9 l9)])] })) = some r) :
  SS (Key.call 70
  [AV.agg [AV.d (Dat.int Go.IntKind.i64 n0), AV.d (Dat.int Go.IntKind.i64 n1), AV.d (Dat.str s2), AV.d (Dat.lst 32 l3), AV.d (Dat.lst 9 l4)],
    AV.agg [AV.d (Dat.int Go.IntKind.i64 n5), AV.d (Dat.int Go.IntKind.i64 n6), AV.d (Dat.str s7), AV.d (Dat.lst 32 l8), AV.d (Dat.lst 9 l9)]]
  []) = some r := ssOf (by kernel_rfl) h

theorem c36 (l0 : List (List Dat)) (n1 : Int) (n2 : Int) (n3 : Int) (l4 : List (List Dat)) (l5 : List (List Dat)) (n6 : Int) (l7 : List (List Dat)) (n8 : Int) (n9 : Int) (n10 : Int) (n11 : Int) (s12 : List UInt8) (l13 : List (List Dat)) (l14 : List (List Dat)) (n15 : Int) (n16 : Int) (s17 : List UInt8) (l18 : List (List Dat)) (l19 : List (List Dat)) {r : Res} (h :
  (bif decide (n6 < 0) then some (Res.ret false [4] [Dat.bool false] [])
else
  bif decide (n6 ≥ (↑l0.length : Int)) then some (Res.ret false [4] [Dat.bool false] [])
  else
    bif decide (0 ≤ n6) && decide (n6 < (↑l0.length : Int)) then
      bif ((l0.getD n6.toNat []).getD 1 Dat.nilP).i != 4 then some (Res.ret false [4] [Dat.bool false] [])
      else
        bif decide ((↑l7.length : Int) < 1) then some (Res.ret false [4] [Dat.bool false] [])
        else
          bif decide ((↑l7.length : Int) > 2) then some (Res.ret false [4] [Dat.bool false] [])
          else
            bindR Out none false [4] [] (fun v => some (Res.panic v))
              (fun rs xs =>
                bif !(rs.getD 0 Dat.nilP).b then some (Res.ret false [4] [Dat.bool false] [])
                else
                  bindR Out none false [4] [] (fun v => some (Res.panic v))
                    (fun rs xs =>
                      bif !(rs.getD 0 Dat.nilP).b then
                        bindR Out none false [4] [] (fun v => some (Res.panic v)) (fun rs xs => some (Res.ret false [4] [Dat.bool (rs.getD 0 Dat.nilP).b] []))
                          (SS
                            (Key.call 35
                              [AV.agg
                                  [AV.d (Dat.int Go.IntKind.i64 n8), AV.d (Dat.int Go.IntKind.i64 n9), AV.d (Dat.int Go.IntKind.i64 n10), AV.d (Dat.int Go.IntKind.i64 n11), AV.d (Dat.str s12), AV.d (Dat.lst 32 l13), AV.d (Dat.lst 9 l14),
                                    AV.d (Dat.int Go.IntKind.i64 n15), AV.d (Dat.int Go.IntKind.i64 n16), AV.d (Dat.str s17), AV.d (Dat.lst 32 l18), AV.d (Dat.lst 9 l19)],
                                AV.d (Dat.int Go.IntKind.i64 n1), AV.d (Dat.int Go.IntKind.i64 4)]
                              []))
                      else some (Res.ret false [4] [Dat.bool false] []))
                    (SS (Key.call 72 [AV.d (Dat.lst 119 l7), AV.d (Dat.fn 73 [])] [])))
              (SS (Key.call 71 [AV.d (Dat.lst 119 l7)] []))
    else none) = some r) :
  SS (Key.call 36
  [AV.agg [AV.d (Dat.lst 83 l0), AV.d (Dat.int Go.IntKind.i64 n1), AV.d (Dat.int Go.IntKind.i64 n2), AV.d (Dat.int Go.IntKind.i64 n3), AV.d (Dat.lst 43 l4), AV.d (Dat.lst 86 l5)],
    AV.agg
      [AV.d (Dat.int Go.IntKind.i64 n6), AV.d (Dat.lst 119 l7), AV.d (Dat.int Go.IntKind.i64 n8), AV.d (Dat.int Go.IntKind.i64 n9), AV.d (Dat.int Go.IntKind.i64 n10), AV.d (Dat.int Go.IntKind.i64 n11), AV.d (Dat.str s12),
        AV.d (Dat.lst 32 l13), AV.d (Dat.lst 9 l14), AV.d (Dat.int Go.IntKind.i64 n15), AV.d (Dat.int Go.IntKind.i64 n16), AV.d (Dat.str s17), AV.d (Dat.lst 32 l18), AV.d (Dat.lst 9 l19)]]
  []) = some r := ssOf (by kernel_rfl) h

theorem c37 (l0 : List (List Dat)) (l1 : List (List Dat)) {r : Res} (h :
  (bindR Out none false [3] [] (fun v => some (Res.panic v)) (fun rs xs => some (Res.ret false [3] [Dat.int Go.IntKind.i64 (rs.getD 0 Dat.nilP).i] [])) (SS (Key.call 74 [AV.d (Dat.lst 119 l0), AV.d (Dat.lst 119 l1), AV.d (Dat.fn 75 [])] []))) = some r) :
  SS (Key.call 37 [AV.d (Dat.lst 119 l0), AV.d (Dat.lst 119 l1)] []) = some r := ssOf (by kernel_rfl) h

theorem c79 (l0 : List (List Dat)) {r : Res} (h :
  (SS (Key.pt 79 [] 26 { tmps := [(0, AV.d (Dat.lst 9 l0)), (3, AV.d (Dat.int Go.IntKind.i64 0))], boxes := [] })) = some r) :
  SS (Key.call 79 [AV.d (Dat.lst 9 l0)] []) = some r := ssOf (by kernel_rfl) h

theorem c81 {r : Res} (h :
  (some (Res.ret false [32] [Dat.int Go.IntKind.i64 0, Dat.int Go.IntKind.i64 0, Dat.str [], Dat.lst 32 [], Dat.lst 9 []] [])) = some r) :
  SS (Key.call 81 [] []) = some r := ssOf (by kernel_rfl) h

theorem c80 (n0 : Int) (n1 : Int) (s2 : List UInt8) (l3 : List (List Dat)) (l4 : List (List Dat)) (n5 : Int) (n6 : Int) (s7 : List UInt8) (l8 : List (List Dat)) (l9 : List (List Dat)) {r : Res} (h :
  (bif n0 != n5 then some (Res.ret false [4] [Dat.bool false] [])
else
  bif n1 != n6 then some (Res.ret false [4] [Dat.bool false] [])
  else
    bif !s2 == s7 then some (Res.ret false [4] [Dat.bool false] [])
    else
      bif (↑l4.length : Int) != (↑l9.length : Int) then some (Res.ret false [4] [Dat.bool false] [])
      else
        SS
          (Key.pt 80 [] 58
            { tmps := [(2, AV.ptr 1002 0), (3, AV.ptr 1003 0), (5, AV.d (Dat.int Go.IntKind.i64 0))],
              boxes :=
                [(1002, [AV.d (Dat.int Go.IntKind.i64 n0), AV.d (Dat.int Go.IntKind.i64 n1), AV.d (Dat.str s2), AV.d (Dat.lst 32 l3), AV.d (Dat.lst 9 l4)]),
                  (1003, [AV.d (Dat.int Go.IntKind.i64 n5), AV.d (Dat.int Go.IntKind.i64 n6), AV.d (Dat.str s7), AV.d (Dat.lst 32 l8), AV.d (Dat.lst 9 l9)])] })) = some r) :
  SS (Key.call 80
  [AV.agg [AV.d (Dat.int Go.IntKind.i64 n0), AV.d (Dat.int Go.IntKind.i64 n1), AV.d (Dat.str s2), AV.d (Dat.lst 32 l3), AV.d (Dat.lst 9 l4)],
    AV.agg [AV.d (Dat.int Go.IntKind.i64 n5), AV.d (Dat.int Go.IntKind.i64 n6), AV.d (Dat.str s7), AV.d (Dat.lst 32 l8), AV.d (Dat.lst 9 l9)]]
  []) = some r := ssOf (by kernel_rfl) h

theorem c82 (n0 : Int) (n1 : Int) (s2 : List UInt8) (l3 : List (List Dat)) (l4 : List (List Dat)) (n5 : Int) {r : Res} (h :
  (bif decide (n5 < 1) then some (Res.ret false [4] [Dat.bool false] [])
else
  bif decide (n5 > 4) then some (Res.ret false [4] [Dat.bool false] [])
  else
    bindR Out none false [4] [] (fun v => some (Res.panic v))
      (fun rs xs =>
        bif !(rs.getD 0 Dat.nilP).b then some (Res.ret false [4] [Dat.bool false] [])
        else
          bif n0 == 0 then some (Res.ret false [4] [Dat.bool true] [])
          else
            bif n5 == 4 then some (Res.ret false [4] [Dat.bool true] [])
            else
              bif n5 == 1 then
                bif n0 == 1 then some (Res.ret false [4] [Dat.bool true] [])
                else
                  bif n5 == 2 then bif n0 == 2 then some (Res.ret false [4] [Dat.bool true] []) else bif n5 == 3 then some (Res.ret false [4] [Dat.bool (n0 == 3)] []) else some (Res.ret false [4] [Dat.bool false] [])
                  else bif n5 == 3 then some (Res.ret false [4] [Dat.bool (n0 == 3)] []) else some (Res.ret false [4] [Dat.bool false] [])
              else
                bif n5 == 2 then bif n0 == 2 then some (Res.ret false [4] [Dat.bool true] []) else bif n5 == 3 then some (Res.ret false [4] [Dat.bool (n0 == 3)] []) else some (Res.ret false [4] [Dat.bool false] [])
                else bif n5 == 3 then some (Res.ret false [4] [Dat.bool (n0 == 3)] []) else some (Res.ret false [4] [Dat.bool false] []))
      (SS (Key.call 115 [AV.agg [AV.d (Dat.int Go.IntKind.i64 n0), AV.d (Dat.int Go.IntKind.i64 n1), AV.d (Dat.str s2), AV.d (Dat.lst 32 l3), AV.d (Dat.lst 9 l4)]] []))) = some r) :
  SS (Key.call 82 [AV.agg [AV.d (Dat.int Go.IntKind.i64 n0), AV.d (Dat.int Go.IntKind.i64 n1), AV.d (Dat.str s2), AV.d (Dat.lst 32 l3), AV.d (Dat.lst 9 l4)], AV.d (Dat.int Go.IntKind.i64 n5)] []) = some r := ssOf (by kernel_rfl) h

theorem c30 (n0 : Int) (n1 : Int) (s2 : List UInt8) (l3 : List (List Dat)) (l4 : List (List Dat)) (n5 : Int) (n6 : Int) (s7 : List UInt8) (l8 : List (List Dat)) (l9 : List (List Dat)) {r : Res} (h :
  (bif n0 != n5 then
  bindR Out none false [3] [] (fun v => some (Res.panic v)) (fun rs xs => some (Res.ret false [3] [Dat.int Go.IntKind.i64 (rs.getD 0 Dat.nilP).i] [])) (SS (Key.call 62 [AV.d (Dat.bool (decide (n0 < n5))), AV.d (Dat.bool false)] []))
else
  bif n0 == 1 then
    bindR Out none false [3] [] (fun v => some (Res.panic v)) (fun rs xs => some (Res.ret false [3] [Dat.int Go.IntKind.i64 (rs.getD 0 Dat.nilP).i] [])) (SS (Key.call 62 [AV.d (Dat.bool (decide (n1 < n6))), AV.d (Dat.bool (n1 == n6))] []))
  else
    bif n0 == 2 then
      bindR Out none false [3] [] (fun v => some (Res.panic v)) (fun rs xs => some (Res.ret false [3] [Dat.int Go.IntKind.i64 (rs.getD 0 Dat.nilP).i] []))
        (SS (Key.call 62 [AV.d (Dat.bool (decide (n1 < n6))), AV.d (Dat.bool (n1 == n6))] []))
    else
      bif n0 == 3 then
        bindR Out none false [3] [] (fun v => some (Res.panic v)) (fun rs xs => some (Res.ret false [3] [Dat.int Go.IntKind.i64 (rs.getD 0 Dat.nilP).i] []))
          (SS (Key.call 62 [AV.d (Dat.bool (Go.Op.bytesLess s2 s7)), AV.d (Dat.bool (s2 == s7))] []))
      else
        SS
          (Key.pt 30 [] 250
            { tmps := [(2, AV.ptr 1002 0), (3, AV.ptr 1003 0), (5, AV.d (Dat.int Go.IntKind.i64 0))],
              boxes :=
                [(1002, [AV.d (Dat.int Go.IntKind.i64 n0), AV.d (Dat.int Go.IntKind.i64 n1), AV.d (Dat.str s2), AV.d (Dat.lst 32 l3), AV.d (Dat.lst 9 l4)]),
                  (1003, [AV.d (Dat.int Go.IntKind.i64 n5), AV.d (Dat.int Go.IntKind.i64 n6), AV.d (Dat.str s7), AV.d (Dat.lst 32 l8), AV.d (Dat.lst 9 l9)])] })) = some r) :
  SS (Key.call 30
  [AV.agg [AV.d (Dat.int Go.IntKind.i64 n0), AV.d (Dat.int Go.IntKind.i64 n1), AV.d (Dat.str s2), AV.d (Dat.lst 32 l3), AV.d (Dat.lst 9 l4)],
    AV.agg [AV.d (Dat.int Go.IntKind.i64 n5), AV.d (Dat.int Go.IntKind.i64 n6), AV.d (Dat.str s7), AV.d (Dat.lst 32 l8), AV.d (Dat.lst 9 l9)]]
  []) = some r := ssOf (by kernel_rfl) h

theorem c40 (l0 : List (List Dat)) {r : Res} (h :
  (bindR Out none false [4] [] (fun v => some (Res.panic v))
  (fun rs xs =>
    bif (rs.getD 0 Dat.nilP).b then
      bif (↑l0.length : Int) == 1 then
        bif decide (0 ≤ 0) && decide (0 < (↑l0.length : Int)) then
          bif decide (((l0.getD 0 []).getD 0 Dat.nilP).i < 0) then
            bif decide (0 ≤ Go.IntKind.i64.wrap ((↑l0.length : Int) - 1)) && decide (Go.IntKind.i64.wrap ((↑l0.length : Int) - 1) < (↑l0.length : Int)) then
              some (Res.ret false [4] [Dat.bool (decide (((l0.getD (Go.IntKind.i64.wrap ((↑l0.length : Int) - 1)).toNat []).getD 0 Dat.nilP).i < 0))] [])
            else none
          else some (Res.ret false [4] [Dat.bool false] [])
        else none
      else
        bif (↑l0.length : Int) == 2 then
          bif decide (0 ≤ 0) && decide (0 < (↑l0.length : Int)) then
            bif decide (((l0.getD 0 []).getD 0 Dat.nilP).i < 0) then
              bif decide (0 ≤ Go.IntKind.i64.wrap ((↑l0.length : Int) - 1)) && decide (Go.IntKind.i64.wrap ((↑l0.length : Int) - 1) < (↑l0.length : Int)) then
                some (Res.ret false [4] [Dat.bool (decide (((l0.getD (Go.IntKind.i64.wrap ((↑l0.length : Int) - 1)).toNat []).getD 0 Dat.nilP).i < 0))] [])
              else none
            else some (Res.ret false [4] [Dat.bool false] [])
          else none
        else some (Res.ret false [4] [Dat.bool false] [])
    else some (Res.ret false [4] [Dat.bool false] []))
  (SS (Key.call 83 [AV.d (Dat.lst 119 l0)] []))) = some r) :
  SS (Key.call 40 [AV.d (Dat.lst 119 l0)] []) = some r := ssOf (by kernel_rfl) h

theorem p11_16019 (n0 : Int) (n1 : Int) (l2 : List (List Dat)) (n3 : Int) (n4 : Int) (n5 : Int) (l6 : List (List Dat)) (l7 : List (List Dat)) (n8 : Int) (l9 : List (List Dat)) (n10 : Int) (n11 : Int) (n12 : Int) (n13 : Int) (s14 : List UInt8) (l15 : List (List Dat)) (l16 : List (List Dat)) (n17 : Int) (n18 : Int) (s19 : List UInt8) (l20 : List (List Dat)) (l21 : List (List Dat)) {r : Res} (h :
  (bif decide (n1 > 0) then
  bif decide (0 ≤ Go.IntKind.i64.wrap (n1 - 1)) && decide (Go.IntKind.i64.wrap (n1 - 1) < (↑l7.length : Int)) then
    bif decide (((l7.getD (Go.IntKind.i64.wrap (n1 - 1)).toNat []).getD 0 Dat.nilP).i > n8) then
      bif decide (((l7.getD (Go.IntKind.i64.wrap (n1 - 1)).toNat []).getD 0 Dat.nilP).i > n8) then
        bif decide (n1 > 0) then some (Res.ret false [4] [Dat.bool false] [])
        else
          SS
            (Key.pt 11 [] 32039
              { tmps := [(1, AV.ptr 1001 0), (4, AV.d (Dat.int Go.IntKind.i64 n0)), (5, AV.d (Dat.int Go.IntKind.i64 n1)), (6, AV.ptr 1006 0)],
                boxes :=
                  [(1001, [AV.d (Dat.lst 83 l2), AV.d (Dat.int Go.IntKind.i64 n3), AV.d (Dat.int Go.IntKind.i64 n4), AV.d (Dat.int Go.IntKind.i64 n5), AV.d (Dat.lst 43 l6), AV.d (Dat.lst 86 l7)]),
                    (1006,
                      [AV.d (Dat.int Go.IntKind.i64 n8), AV.d (Dat.lst 119 l9), AV.d (Dat.int Go.IntKind.i64 n10), AV.d (Dat.int Go.IntKind.i64 n11), AV.d (Dat.int Go.IntKind.i64 n12), AV.d (Dat.int Go.IntKind.i64 n13), AV.d (Dat.str s14),
                        AV.d (Dat.lst 32 l15), AV.d (Dat.lst 9 l16), AV.d (Dat.int Go.IntKind.i64 n17), AV.d (Dat.int Go.IntKind.i64 n18), AV.d (Dat.str s19), AV.d (Dat.lst 32 l20), AV.d (Dat.lst 9 l21)])] })
      else
        bif decide (n1 > 0) then none
        else
          SS
            (Key.pt 11 [] 32039
              { tmps := [(1, AV.ptr 1001 0), (4, AV.d (Dat.int Go.IntKind.i64 n0)), (5, AV.d (Dat.int Go.IntKind.i64 n1)), (6, AV.ptr 1006 0)],
                boxes :=
                  [(1001, [AV.d (Dat.lst 83 l2), AV.d (Dat.int Go.IntKind.i64 n3), AV.d (Dat.int Go.IntKind.i64 n4), AV.d (Dat.int Go.IntKind.i64 n5), AV.d (Dat.lst 43 l6), AV.d (Dat.lst 86 l7)]),
                    (1006,
                      [AV.d (Dat.int Go.IntKind.i64 n8), AV.d (Dat.lst 119 l9), AV.d (Dat.int Go.IntKind.i64 n10), AV.d (Dat.int Go.IntKind.i64 n11), AV.d (Dat.int Go.IntKind.i64 n12), AV.d (Dat.int Go.IntKind.i64 n13), AV.d (Dat.str s14),
                        AV.d (Dat.lst 32 l15), AV.d (Dat.lst 9 l16), AV.d (Dat.int Go.IntKind.i64 n17), AV.d (Dat.int Go.IntKind.i64 n18), AV.d (Dat.str s19), AV.d (Dat.lst 32 l20), AV.d (Dat.lst 9 l21)])] })
    else
      bif decide (0 ≤ Go.IntKind.i64.wrap (n1 - 1)) && decide (Go.IntKind.i64.wrap (n1 - 1) < (↑l7.length : Int)) then
        bif ((l7.getD (Go.IntKind.i64.wrap (n1 - 1)).toNat []).getD 0 Dat.nilP).i == n8 then
          bif decide (0 ≤ Go.IntKind.i64.wrap (n1 - 1)) && decide (Go.IntKind.i64.wrap (n1 - 1) < (↑l7.length : Int)) then
            bindR Out none false [3] [] (fun v => some (Res.panic (34, v).snd))
              (fun rs xs =>
                bif ((l7.getD (Go.IntKind.i64.wrap (n1 - 1)).toNat []).getD 0 Dat.nilP).i == n8 then
                  bif decide (((l7.getD (Go.IntKind.i64.wrap (n1 - 1)).toNat []).getD 0 Dat.nilP).i > n8) then
                    bif decide (n1 > 0) then some (Res.ret false [4] [Dat.bool false] [])
                    else
                      SS
                        (Key.pt 11 [] 32039
                          { tmps := [(1, AV.ptr 1001 0), (4, AV.d (Dat.int Go.IntKind.i64 n0)), (5, AV.d (Dat.int Go.IntKind.i64 n1)), (6, AV.ptr 1006 0)],
                            boxes :=
                              [(1001, [AV.d (Dat.lst 83 l2), AV.d (Dat.int Go.IntKind.i64 n3), AV.d (Dat.int Go.IntKind.i64 n4), AV.d (Dat.int Go.IntKind.i64 n5), AV.d (Dat.lst 43 l6), AV.d (Dat.lst 86 l7)]),
                                (1006,
                                  [AV.d (Dat.int Go.IntKind.i64 n8), AV.d (Dat.lst 119 l9), AV.d (Dat.int Go.IntKind.i64 n10), AV.d (Dat.int Go.IntKind.i64 n11), AV.d (Dat.int Go.IntKind.i64 n12), AV.d (Dat.int Go.IntKind.i64 n13),
                                    AV.d (Dat.str s14), AV.d (Dat.lst 32 l15), AV.d (Dat.lst 9 l16), AV.d (Dat.int Go.IntKind.i64 n17), AV.d (Dat.int Go.IntKind.i64 n18), AV.d (Dat.str s19), AV.d (Dat.lst 32 l20), AV.d (Dat.lst 9 l21)])] })
                  else
                    bif decide (n1 > 0) then
                      bif decide ((rs.getD 0 Dat.nilP).i ≥ 0) then some (Res.ret false [4] [Dat.bool false] [])
                      else
                        SS
                          (Key.pt 11 [] 32039
                            { tmps := [(1, AV.ptr 1001 0), (4, AV.d (Dat.int Go.IntKind.i64 n0)), (5, AV.d (Dat.int Go.IntKind.i64 n1)), (6, AV.ptr 1006 0)],
                              boxes :=
                                [(1001, [AV.d (Dat.lst 83 l2), AV.d (Dat.int Go.IntKind.i64 n3), AV.d (Dat.int Go.IntKind.i64 n4), AV.d (Dat.int Go.IntKind.i64 n5), AV.d (Dat.lst 43 l6), AV.d (Dat.lst 86 l7)]),
                                  (1006,
                                    [AV.d (Dat.int Go.IntKind.i64 n8), AV.d (Dat.lst 119 l9), AV.d (Dat.int Go.IntKind.i64 n10), AV.d (Dat.int Go.IntKind.i64 n11), AV.d (Dat.int Go.IntKind.i64 n12), AV.d (Dat.int Go.IntKind.i64 n13),
                                      AV.d (Dat.str s14), AV.d (Dat.lst 32 l15), AV.d (Dat.lst 9 l16), AV.d (Dat.int Go.IntKind.i64 n17), AV.d (Dat.int Go.IntKind.i64 n18), AV.d (Dat.str s19), AV.d (Dat.lst 32 l20),
                                      AV.d (Dat.lst 9 l21)])] })
                    else
                      SS
                        (Key.pt 11 [] 32039
                          { tmps := [(1, AV.ptr 1001 0), (4, AV.d (Dat.int Go.IntKind.i64 n0)), (5, AV.d (Dat.int Go.IntKind.i64 n1)), (6, AV.ptr 1006 0)],
                            boxes :=
                              [(1001, [AV.d (Dat.lst 83 l2), AV.d (Dat.int Go.IntKind.i64 n3), AV.d (Dat.int Go.IntKind.i64 n4), AV.d (Dat.int Go.IntKind.i64 n5), AV.d (Dat.lst 43 l6), AV.d (Dat.lst 86 l7)]),
                                (1006,
                                  [AV.d (Dat.int Go.IntKind.i64 n8), AV.d (Dat.lst 119 l9), AV.d (Dat.int Go.IntKind.i64 n10), AV.d (Dat.int Go.IntKind.i64 n11), AV.d (Dat.int Go.IntKind.i64 n12), AV.d (Dat.int Go.IntKind.i64 n13),
                                    AV.d (Dat.str s14), AV.d (Dat.lst 32 l15), AV.d (Dat.lst 9 l16), AV.d (Dat.int Go.IntKind.i64 n17), AV.d (Dat.int Go.IntKind.i64 n18), AV.d (Dat.str s19), AV.d (Dat.lst 32 l20), AV.d (Dat.lst 9 l21)])] })
                else
                  bif decide (((l7.getD (Go.IntKind.i64.wrap (n1 - 1)).toNat []).getD 0 Dat.nilP).i > n8) then
                    bif decide (n1 > 0) then some (Res.ret false [4] [Dat.bool false] [])
                    else
                      SS
                        (Key.pt 11 [] 32039
                          { tmps := [(1, AV.ptr 1001 0), (4, AV.d (Dat.int Go.IntKind.i64 n0)), (5, AV.d (Dat.int Go.IntKind.i64 n1)), (6, AV.ptr 1006 0)],
                            boxes :=
                              [(1001, [AV.d (Dat.lst 83 l2), AV.d (Dat.int Go.IntKind.i64 n3), AV.d (Dat.int Go.IntKind.i64 n4), AV.d (Dat.int Go.IntKind.i64 n5), AV.d (Dat.lst 43 l6), AV.d (Dat.lst 86 l7)]),
                                (1006,
                                  [AV.d (Dat.int Go.IntKind.i64 n8), AV.d (Dat.lst 119 l9), AV.d (Dat.int Go.IntKind.i64 n10), AV.d (Dat.int Go.IntKind.i64 n11), AV.d (Dat.int Go.IntKind.i64 n12), AV.d (Dat.int Go.IntKind.i64 n13),
                                    AV.d (Dat.str s14), AV.d (Dat.lst 32 l15), AV.d (Dat.lst 9 l16), AV.d (Dat.int Go.IntKind.i64 n17), AV.d (Dat.int Go.IntKind.i64 n18), AV.d (Dat.str s19), AV.d (Dat.lst 32 l20), AV.d (Dat.lst 9 l21)])] })
                  else
                    bif decide (n1 > 0) then
                      SS
                        (Key.pt 11 [] 32039
                          { tmps := [(1, AV.ptr 1001 0), (4, AV.d (Dat.int Go.IntKind.i64 n0)), (5, AV.d (Dat.int Go.IntKind.i64 n1)), (6, AV.ptr 1006 0)],
                            boxes :=
                              [(1001, [AV.d (Dat.lst 83 l2), AV.d (Dat.int Go.IntKind.i64 n3), AV.d (Dat.int Go.IntKind.i64 n4), AV.d (Dat.int Go.IntKind.i64 n5), AV.d (Dat.lst 43 l6), AV.d (Dat.lst 86 l7)]),
                                (1006,
                                  [AV.d (Dat.int Go.IntKind.i64 n8), AV.d (Dat.lst 119 l9), AV.d (Dat.int Go.IntKind.i64 n10), AV.d (Dat.int Go.IntKind.i64 n11), AV.d (Dat.int Go.IntKind.i64 n12), AV.d (Dat.int Go.IntKind.i64 n13),
                                    AV.d (Dat.str s14), AV.d (Dat.lst 32 l15), AV.d (Dat.lst 9 l16), AV.d (Dat.int Go.IntKind.i64 n17), AV.d (Dat.int Go.IntKind.i64 n18), AV.d (Dat.str s19), AV.d (Dat.lst 32 l20), AV.d (Dat.lst 9 l21)])] })
                    else
                      SS
                        (Key.pt 11 [] 32039
                          { tmps := [(1, AV.ptr 1001 0), (4, AV.d (Dat.int Go.IntKind.i64 n0)), (5, AV.d (Dat.int Go.IntKind.i64 n1)), (6, AV.ptr 1006 0)],
                            boxes :=
                              [(1001, [AV.d (Dat.lst 83 l2), AV.d (Dat.int Go.IntKind.i64 n3), AV.d (Dat.int Go.IntKind.i64 n4), AV.d (Dat.int Go.IntKind.i64 n5), AV.d (Dat.lst 43 l6), AV.d (Dat.lst 86 l7)]),
                                (1006,
                                  [AV.d (Dat.int Go.IntKind.i64 n8), AV.d (Dat.lst 119 l9), AV.d (Dat.int Go.IntKind.i64 n10), AV.d (Dat.int Go.IntKind.i64 n11), AV.d (Dat.int Go.IntKind.i64 n12), AV.d (Dat.int Go.IntKind.i64 n13),
                                    AV.d (Dat.str s14), AV.d (Dat.lst 32 l15), AV.d (Dat.lst 9 l16), AV.d (Dat.int Go.IntKind.i64 n17), AV.d (Dat.int Go.IntKind.i64 n18), AV.d (Dat.str s19), AV.d (Dat.lst 32 l20),
                                    AV.d (Dat.lst 9 l21)])] }))
              (SS (Key.call 41 [AV.d (Dat.lst 119 ((l7.getD (Go.IntKind.i64.wrap (n1 - 1)).toNat []).getD 1 Dat.nilP).l), AV.d (Dat.lst 119 l9)] []))
          else none
        else
          bif ((l7.getD (Go.IntKind.i64.wrap (n1 - 1)).toNat []).getD 0 Dat.nilP).i == n8 then
            bif decide (((l7.getD (Go.IntKind.i64.wrap (n1 - 1)).toNat []).getD 0 Dat.nilP).i > n8) then
              bif decide (n1 > 0) then some (Res.ret false [4] [Dat.bool false] [])
              else
                SS
                  (Key.pt 11 [] 32039
                    { tmps := [(1, AV.ptr 1001 0), (4, AV.d (Dat.int Go.IntKind.i64 n0)), (5, AV.d (Dat.int Go.IntKind.i64 n1)), (6, AV.ptr 1006 0)],
                      boxes :=
                        [(1001, [AV.d (Dat.lst 83 l2), AV.d (Dat.int Go.IntKind.i64 n3), AV.d (Dat.int Go.IntKind.i64 n4), AV.d (Dat.int Go.IntKind.i64 n5), AV.d (Dat.lst 43 l6), AV.d (Dat.lst 86 l7)]),
                          (1006,
                            [AV.d (Dat.int Go.IntKind.i64 n8), AV.d (Dat.lst 119 l9), AV.d (Dat.int Go.IntKind.i64 n10), AV.d (Dat.int Go.IntKind.i64 n11), AV.d (Dat.int Go.IntKind.i64 n12), AV.d (Dat.int Go.IntKind.i64 n13),
                              AV.d (Dat.str s14), AV.d (Dat.lst 32 l15), AV.d (Dat.lst 9 l16), AV.d (Dat.int Go.IntKind.i64 n17), AV.d (Dat.int Go.IntKind.i64 n18), AV.d (Dat.str s19), AV.d (Dat.lst 32 l20), AV.d (Dat.lst 9 l21)])] })
            else
              bif decide (n1 > 0) then none
              else
                SS
                  (Key.pt 11 [] 32039
                    { tmps := [(1, AV.ptr 1001 0), (4, AV.d (Dat.int Go.IntKind.i64 n0)), (5, AV.d (Dat.int Go.IntKind.i64 n1)), (6, AV.ptr 1006 0)],
                      boxes :=
                        [(1001, [AV.d (Dat.lst 83 l2), AV.d (Dat.int Go.IntKind.i64 n3), AV.d (Dat.int Go.IntKind.i64 n4), AV.d (Dat.int Go.IntKind.i64 n5), AV.d (Dat.lst 43 l6), AV.d (Dat.lst 86 l7)]),
                          (1006,
                            [AV.d (Dat.int Go.IntKind.i64 n8), AV.d (Dat.lst 119 l9), AV.d (Dat.int Go.IntKind.i64 n10), AV.d (Dat.int Go.IntKind.i64 n11), AV.d (Dat.int Go.IntKind.i64 n12), AV.d (Dat.int Go.IntKind.i64 n13),
                              AV.d (Dat.str s14), AV.d (Dat.lst 32 l15), AV.d (Dat.lst 9 l16), AV.d (Dat.int Go.IntKind.i64 n17), AV.d (Dat.int Go.IntKind.i64 n18), AV.d (Dat.str s19), AV.d (Dat.lst 32 l20), AV.d (Dat.lst 9 l21)])] })
          else
            bif decide (((l7.getD (Go.IntKind.i64.wrap (n1 - 1)).toNat []).getD 0 Dat.nilP).i > n8) then
              bif decide (n1 > 0) then some (Res.ret false [4] [Dat.bool false] [])
              else
                SS
                  (Key.pt 11 [] 32039
                    { tmps := [(1, AV.ptr 1001 0), (4, AV.d (Dat.int Go.IntKind.i64 n0)), (5, AV.d (Dat.int Go.IntKind.i64 n1)), (6, AV.ptr 1006 0)],
                      boxes :=
                        [(1001, [AV.d (Dat.lst 83 l2), AV.d (Dat.int Go.IntKind.i64 n3), AV.d (Dat.int Go.IntKind.i64 n4), AV.d (Dat.int Go.IntKind.i64 n5), AV.d (Dat.lst 43 l6), AV.d (Dat.lst 86 l7)]),
                          (1006,
                            [AV.d (Dat.int Go.IntKind.i64 n8), AV.d (Dat.lst 119 l9), AV.d (Dat.int Go.IntKind.i64 n10), AV.d (Dat.int Go.IntKind.i64 n11), AV.d (Dat.int Go.IntKind.i64 n12), AV.d (Dat.int Go.IntKind.i64 n13),
                              AV.d (Dat.str s14), AV.d (Dat.lst 32 l15), AV.d (Dat.lst 9 l16), AV.d (Dat.int Go.IntKind.i64 n17), AV.d (Dat.int Go.IntKind.i64 n18), AV.d (Dat.str s19), AV.d (Dat.lst 32 l20), AV.d (Dat.lst 9 l21)])] })
            else
              bif decide (n1 > 0) then
                SS
                  (Key.pt 11 [] 32039
                    { tmps := [(1, AV.ptr 1001 0), (4, AV.d (Dat.int Go.IntKind.i64 n0)), (5, AV.d (Dat.int Go.IntKind.i64 n1)), (6, AV.ptr 1006 0)],
                      boxes :=
                        [(1001, [AV.d (Dat.lst 83 l2), AV.d (Dat.int Go.IntKind.i64 n3), AV.d (Dat.int Go.IntKind.i64 n4), AV.d (Dat.int Go.IntKind.i64 n5), AV.d (Dat.lst 43 l6), AV.d (Dat.lst 86 l7)]),
                          (1006,
                            [AV.d (Dat.int Go.IntKind.i64 n8), AV.d (Dat.lst 119 l9), AV.d (Dat.int Go.IntKind.i64 n10), AV.d (Dat.int Go.IntKind.i64 n11), AV.d (Dat.int Go.IntKind.i64 n12), AV.d (Dat.int Go.IntKind.i64 n13),
                              AV.d (Dat.str s14), AV.d (Dat.lst 32 l15), AV.d (Dat.lst 9 l16), AV.d (Dat.int Go.IntKind.i64 n17), AV.d (Dat.int Go.IntKind.i64 n18), AV.d (Dat.str s19), AV.d (Dat.lst 32 l20), AV.d (Dat.lst 9 l21)])] })
              else
                SS
                  (Key.pt 11 [] 32039
                    { tmps := [(1, AV.ptr 1001 0), (4, AV.d (Dat.int Go.IntKind.i64 n0)), (5, AV.d (Dat.int Go.IntKind.i64 n1)), (6, AV.ptr 1006 0)],
                      boxes :=
                        [(1001, [AV.d (Dat.lst 83 l2), AV.d (Dat.int Go.IntKind.i64 n3), AV.d (Dat.int Go.IntKind.i64 n4), AV.d (Dat.int Go.IntKind.i64 n5), AV.d (Dat.lst 43 l6), AV.d (Dat.lst 86 l7)]),
                          (1006,
                            [AV.d (Dat.int Go.IntKind.i64 n8), AV.d (Dat.lst 119 l9), AV.d (Dat.int Go.IntKind.i64 n10), AV.d (Dat.int Go.IntKind.i64 n11), AV.d (Dat.int Go.IntKind.i64 n12), AV.d (Dat.int Go.IntKind.i64 n13),
                              AV.d (Dat.str s14), AV.d (Dat.lst 32 l15), AV.d (Dat.lst 9 l16), AV.d (Dat.int Go.IntKind.i64 n17), AV.d (Dat.int Go.IntKind.i64 n18), AV.d (Dat.str s19), AV.d (Dat.lst 32 l20), AV.d (Dat.lst 9 l21)])] })
      else none
  else none
else
  bif decide (n1 > 0) then none
  else
    SS
      (Key.pt 11 [] 32039
        { tmps := [(1, AV.ptr 1001 0), (4, AV.d (Dat.int Go.IntKind.i64 n0)), (5, AV.d (Dat.int Go.IntKind.i64 n1)), (6, AV.ptr 1006 0)],
          boxes :=
            [(1001, [AV.d (Dat.lst 83 l2), AV.d (Dat.int Go.IntKind.i64 n3), AV.d (Dat.int Go.IntKind.i64 n4), AV.d (Dat.int Go.IntKind.i64 n5), AV.d (Dat.lst 43 l6), AV.d (Dat.lst 86 l7)]),
              (1006,
                [AV.d (Dat.int Go.IntKind.i64 n8), AV.d (Dat.lst 119 l9), AV.d (Dat.int Go.IntKind.i64 n10), AV.d (Dat.int Go.IntKind.i64 n11), AV.d (Dat.int Go.IntKind.i64 n12), AV.d (Dat.int Go.IntKind.i64 n13), AV.d (Dat.str s14),
                  AV.d (Dat.lst 32 l15), AV.d (Dat.lst 9 l16), AV.d (Dat.int Go.IntKind.i64 n17), AV.d (Dat.int Go.IntKind.i64 n18), AV.d (Dat.str s19), AV.d (Dat.lst 32 l20), AV.d (Dat.lst 9 l21)])] })) = some r) :
  SS (Key.pt 11 [] 16019
  { tmps := [(1, AV.ptr 1001 0), (4, AV.d (Dat.int Go.IntKind.i64 n0)), (5, AV.d (Dat.int Go.IntKind.i64 n1)), (6, AV.ptr 1006 0)],
    boxes :=
      [(1001, [AV.d (Dat.lst 83 l2), AV.d (Dat.int Go.IntKind.i64 n3), AV.d (Dat.int Go.IntKind.i64 n4), AV.d (Dat.int Go.IntKind.i64 n5), AV.d (Dat.lst 43 l6), AV.d (Dat.lst 86 l7)]),
        (1006,
          [AV.d (Dat.int Go.IntKind.i64 n8), AV.d (Dat.lst 119 l9), AV.d (Dat.int Go.IntKind.i64 n10), AV.d (Dat.int Go.IntKind.i64 n11), AV.d (Dat.int Go.IntKind.i64 n12), AV.d (Dat.int Go.IntKind.i64 n13), AV.d (Dat.str s14),
            AV.d (Dat.lst 32 l15), AV.d (Dat.lst 9 l16), AV.d (Dat.int Go.IntKind.i64 n17), AV.d (Dat.int Go.IntKind.i64 n18), AV.d (Dat.str s19), AV.d (Dat.lst 32 l20), AV.d (Dat.lst 9 l21)])] }) = some r := ssOf (by kernel_rfl) h

theorem p68_26 (s0 : List UInt8) (n1 : Int) (n2 : Int) {r : Res} (h :
  (bif decide (n2 < n1) then
  bif decide (0 ≤ n2) && decide (n2 < (↑s0.length : Int)) then
    bif decide ((↑(s0.getD n2.toNat 0).toNat : Int) ≥ 97) then
      bif decide ((↑(s0.getD n2.toNat 0).toNat : Int) ≤ 122) then
        SS (Key.pt 68 [] 26 { tmps := [(0, AV.d (Dat.str s0)), (6, AV.d (Dat.int Go.IntKind.i64 n1)), (7, AV.d (Dat.int Go.IntKind.i64 (Go.IntKind.i64.wrap (n2 + 1))))], boxes := [] })
      else
        bif decide (n2 > 0) then
          bif decide ((↑(s0.getD n2.toNat 0).toNat : Int) ≥ 48) then
            bif decide ((↑(s0.getD n2.toNat 0).toNat : Int) ≤ 57) then
              SS (Key.pt 68 [] 26 { tmps := [(0, AV.d (Dat.str s0)), (6, AV.d (Dat.int Go.IntKind.i64 n1)), (7, AV.d (Dat.int Go.IntKind.i64 (Go.IntKind.i64.wrap (n2 + 1))))], boxes := [] })
            else
              bif (↑(s0.getD n2.toNat 0).toNat : Int) == 95 then
                SS (Key.pt 68 [] 26 { tmps := [(0, AV.d (Dat.str s0)), (6, AV.d (Dat.int Go.IntKind.i64 n1)), (7, AV.d (Dat.int Go.IntKind.i64 (Go.IntKind.i64.wrap (n2 + 1))))], boxes := [] })
              else some (Res.ret false [4] [Dat.bool false] [])
          else
            bif (↑(s0.getD n2.toNat 0).toNat : Int) == 95 then SS (Key.pt 68 [] 26 { tmps := [(0, AV.d (Dat.str s0)), (6, AV.d (Dat.int Go.IntKind.i64 n1)), (7, AV.d (Dat.int Go.IntKind.i64 (Go.IntKind.i64.wrap (n2 + 1))))], boxes := [] })
            else some (Res.ret false [4] [Dat.bool false] [])
        else some (Res.ret false [4] [Dat.bool false] [])
    else
      bif decide (n2 > 0) then
        bif decide ((↑(s0.getD n2.toNat 0).toNat : Int) ≥ 48) then
          bif decide ((↑(s0.getD n2.toNat 0).toNat : Int) ≤ 57) then
            SS (Key.pt 68 [] 26 { tmps := [(0, AV.d (Dat.str s0)), (6, AV.d (Dat.int Go.IntKind.i64 n1)), (7, AV.d (Dat.int Go.IntKind.i64 (Go.IntKind.i64.wrap (n2 + 1))))], boxes := [] })
          else
            bif (↑(s0.getD n2.toNat 0).toNat : Int) == 95 then SS (Key.pt 68 [] 26 { tmps := [(0, AV.d (Dat.str s0)), (6, AV.d (Dat.int Go.IntKind.i64 n1)), (7, AV.d (Dat.int Go.IntKind.i64 (Go.IntKind.i64.wrap (n2 + 1))))], boxes := [] })
            else some (Res.ret false [4] [Dat.bool false] [])
        else
          bif (↑(s0.getD n2.toNat 0).toNat : Int) == 95 then SS (Key.pt 68 [] 26 { tmps := [(0, AV.d (Dat.str s0)), (6, AV.d (Dat.int Go.IntKind.i64 n1)), (7, AV.d (Dat.int Go.IntKind.i64 (Go.IntKind.i64.wrap (n2 + 1))))], boxes := [] })
          else some (Res.ret false [4] [Dat.bool false] [])
      else some (Res.ret false [4] [Dat.bool false] [])
  else none
else bif !s0 == [] then some (Res.ret false [4] [Dat.bool (decide ((↑s0.length : Int) ≤ 24))] []) else some (Res.ret false [4] [Dat.bool false] [])) = some r) :
  SS (Key.pt 68 [] 26 { tmps := [(0, AV.d (Dat.str s0)), (6, AV.d (Dat.int Go.IntKind.i64 n1)), (7, AV.d (Dat.int Go.IntKind.i64 n2))], boxes := [] }) = some r := ssOf (by kernel_rfl) h

theorem c129 (n0 : Int) (n1 : Int) (s2 : List UInt8) (l3 : List (List Dat)) (l4 : List (List Dat)) {r : Res} (h :
  (bindR Out none false [4] [[AV.d (Dat.int Go.IntKind.i64 0)]] (fun v => some (Res.panic v)) (fun rs xs => some (Res.ret false [4] [Dat.bool (rs.getD 0 Dat.nilP).b] []))
  (SS
    (Key.call 179 [AV.agg [AV.d (Dat.int Go.IntKind.i64 n0), AV.d (Dat.int Go.IntKind.i64 n1), AV.d (Dat.str s2), AV.d (Dat.lst 32 l3), AV.d (Dat.lst 9 l4)], AV.d (Dat.int Go.IntKind.i64 6), AV.ptr 0 0] [[AV.d (Dat.int Go.IntKind.i64 0)]]))) = some r) :
  SS (Key.call 129 [AV.agg [AV.d (Dat.int Go.IntKind.i64 n0), AV.d (Dat.int Go.IntKind.i64 n1), AV.d (Dat.str s2), AV.d (Dat.lst 32 l3), AV.d (Dat.lst 9 l4)]] []) = some r := ssOf (by kernel_rfl) h

theorem c76 (n0 : Int) (n1 : Int) {r : Res} (h :
  (bindR Out none false [4] [] (fun v => some (Res.panic v))
  (fun rs xs =>
    bindR Out none false [4] [] (fun v => some (Res.panic v))
      (fun rs_1 xs =>
        bif (rs.getD 0 Dat.nilP).b then bif (rs_1.getD 0 Dat.nilP).b then some (Res.ret false [3] [Dat.int Go.IntKind.i64 0] []) else some (Res.ret false [3] [Dat.int Go.IntKind.i64 (-1)] [])
        else
          bif (rs_1.getD 0 Dat.nilP).b then some (Res.ret false [3] [Dat.int Go.IntKind.i64 1] [])
          else
            bif decide (n0 < n1) then some (Res.ret false [3] [Dat.int Go.IntKind.i64 (-1)] [])
            else bif decide (n0 > n1) then some (Res.ret false [3] [Dat.int Go.IntKind.i64 1] []) else some (Res.ret false [3] [Dat.int Go.IntKind.i64 0] []))
      (SS (Key.call 133 [AV.d (Dat.int Go.IntKind.i64 n1)] [])))
  (SS (Key.call 133 [AV.d (Dat.int Go.IntKind.i64 n0)] []))) = some r) :
  SS (Key.call 76 [AV.d (Dat.int Go.IntKind.i64 n0), AV.d (Dat.int Go.IntKind.i64 n1)] []) = some r := ssOf (by kernel_rfl) h

theorem p70_58 (n0 : Int) (n1 : Int) (n2 : Int) (n3 : Int) (s4 : List UInt8) (l5 : List (List Dat)) (l6 : List (List Dat)) (n7 : Int) (n8 : Int) (s9 : List UInt8) (l10 : List (List Dat)) (l11 : List (List Dat)) {r : Res} (h :
  (bif decide (n1 < n0) then
  bif n2 == 5 then
    bif decide (0 ≤ n1) && decide (n1 < (↑l6.length : Int)) then
      bif decide (0 ≤ n1) && decide (n1 < (↑l11.length : Int)) then
        bif n2 == 5 then
          bif !((l6.getD n1.toNat []).getD 0 Dat.nilP).s == ((l11.getD n1.toNat []).getD 0 Dat.nilP).s then
            bif decide (0 ≤ n1) && decide (n1 < (↑l6.length : Int)) then
              bif decide (0 ≤ n1) && decide (n1 < (↑l11.length : Int)) then
                bindR Out none false [3] [] (fun v => some (Res.panic (10, v).snd)) (fun rs xs => some (Res.ret false [3] [Dat.int Go.IntKind.i64 (rs.getD 0 Dat.nilP).i] []))
                  (SS (Key.call 78 [AV.d (Dat.str ((l6.getD n1.toNat []).getD 0 Dat.nilP).s), AV.d (Dat.str ((l11.getD n1.toNat []).getD 0 Dat.nilP).s)] []))
              else none
            else none
          else
            bif decide (0 ≤ n1) && decide (n1 < (↑l5.length : Int)) then
              bif decide (0 ≤ n1) && decide (n1 < (↑l10.length : Int)) then
                bindR Out none false [3] [] (fun v => some (Res.panic (10, v).snd))
                  (fun rs xs =>
                    bif (rs.getD 0 Dat.nilP).i != 0 then some (Res.ret false [3] [Dat.int Go.IntKind.i64 (rs.getD 0 Dat.nilP).i] [])
                    else
                      SS
                        (Key.pt 70 [] 58
                          { tmps := [(2, AV.ptr 1002 0), (3, AV.ptr 1003 0), (23, AV.d (Dat.int Go.IntKind.i64 n0)), (24, AV.d (Dat.int Go.IntKind.i64 (Go.IntKind.i64.wrap (n1 + 1))))],
                            boxes :=
                              [(1002, [AV.d (Dat.int Go.IntKind.i64 n2), AV.d (Dat.int Go.IntKind.i64 n3), AV.d (Dat.str s4), AV.d (Dat.lst 32 l5), AV.d (Dat.lst 9 l6)]),
                                (1003, [AV.d (Dat.int Go.IntKind.i64 n7), AV.d (Dat.int Go.IntKind.i64 n8), AV.d (Dat.str s9), AV.d (Dat.lst 32 l10), AV.d (Dat.lst 9 l11)])] }))
                  (SS
                    (Key.call 70
                      [AV.agg
                          [AV.d (Dat.int Go.IntKind.i64 ((l5.getD n1.toNat []).getD 0 Dat.nilP).i), AV.d (Dat.int Go.IntKind.i64 ((l5.getD n1.toNat []).getD 1 Dat.nilP).i), AV.d (Dat.str ((l5.getD n1.toNat []).getD 2 Dat.nilP).s),
                            AV.d (Dat.lst 32 ((l5.getD n1.toNat []).getD 3 Dat.nilP).l), AV.d (Dat.lst 9 ((l5.getD n1.toNat []).getD 4 Dat.nilP).l)],
                        AV.agg
                          [AV.d (Dat.int Go.IntKind.i64 ((l10.getD n1.toNat []).getD 0 Dat.nilP).i), AV.d (Dat.int Go.IntKind.i64 ((l10.getD n1.toNat []).getD 1 Dat.nilP).i), AV.d (Dat.str ((l10.getD n1.toNat []).getD 2 Dat.nilP).s),
                            AV.d (Dat.lst 32 ((l10.getD n1.toNat []).getD 3 Dat.nilP).l), AV.d (Dat.lst 9 ((l10.getD n1.toNat []).getD 4 Dat.nilP).l)]]
                      []))
              else none
            else none
        else
          bif decide (0 ≤ n1) && decide (n1 < (↑l5.length : Int)) then
            bif decide (0 ≤ n1) && decide (n1 < (↑l10.length : Int)) then
              bindR Out none false [3] [] (fun v => some (Res.panic (10, v).snd))
                (fun rs xs =>
                  bif (rs.getD 0 Dat.nilP).i != 0 then some (Res.ret false [3] [Dat.int Go.IntKind.i64 (rs.getD 0 Dat.nilP).i] [])
                  else
                    SS
                      (Key.pt 70 [] 58
                        { tmps := [(2, AV.ptr 1002 0), (3, AV.ptr 1003 0), (23, AV.d (Dat.int Go.IntKind.i64 n0)), (24, AV.d (Dat.int Go.IntKind.i64 (Go.IntKind.i64.wrap (n1 + 1))))],
                          boxes :=
                            [(1002, [AV.d (Dat.int Go.IntKind.i64 n2), AV.d (Dat.int Go.IntKind.i64 n3), AV.d (Dat.str s4), AV.d (Dat.lst 32 l5), AV.d (Dat.lst 9 l6)]),
                              (1003, [AV.d (Dat.int Go.IntKind.i64 n7), AV.d (Dat.int Go.IntKind.i64 n8), AV.d (Dat.str s9), AV.d (Dat.lst 32 l10), AV.d (Dat.lst 9 l11)])] }))
                (SS
                  (Key.call 70
                    [AV.agg
                        [AV.d (Dat.int Go.IntKind.i64 ((l5.getD n1.toNat []).getD 0 Dat.nilP).i), AV.d (Dat.int Go.IntKind.i64 ((l5.getD n1.toNat []).getD 1 Dat.nilP).i), AV.d (Dat.str ((l5.getD n1.toNat []).getD 2 Dat.nilP).s),
                          AV.d (Dat.lst 32 ((l5.getD n1.toNat []).getD 3 Dat.nilP).l), AV.d (Dat.lst 9 ((l5.getD n1.toNat []).getD 4 Dat.nilP).l)],
                      AV.agg
                        [AV.d (Dat.int Go.IntKind.i64 ((l10.getD n1.toNat []).getD 0 Dat.nilP).i), AV.d (Dat.int Go.IntKind.i64 ((l10.getD n1.toNat []).getD 1 Dat.nilP).i), AV.d (Dat.str ((l10.getD n1.toNat []).getD 2 Dat.nilP).s),
                          AV.d (Dat.lst 32 ((l10.getD n1.toNat []).getD 3 Dat.nilP).l), AV.d (Dat.lst 9 ((l10.getD n1.toNat []).getD 4 Dat.nilP).l)]]
                    []))
            else none
          else none
      else none
    else none
  else
    bif n2 == 5 then none
    else
      bif decide (0 ≤ n1) && decide (n1 < (↑l5.length : Int)) then
        bif decide (0 ≤ n1) && decide (n1 < (↑l10.length : Int)) then
          bindR Out none false [3] [] (fun v => some (Res.panic (10, v).snd))
            (fun rs xs =>
              bif (rs.getD 0 Dat.nilP).i != 0 then some (Res.ret false [3] [Dat.int Go.IntKind.i64 (rs.getD 0 Dat.nilP).i] [])
              else
                SS
                  (Key.pt 70 [] 58
                    { tmps := [(2, AV.ptr 1002 0), (3, AV.ptr 1003 0), (23, AV.d (Dat.int Go.IntKind.i64 n0)), (24, AV.d (Dat.int Go.IntKind.i64 (Go.IntKind.i64.wrap (n1 + 1))))],
                      boxes :=
                        [(1002, [AV.d (Dat.int Go.IntKind.i64 n2), AV.d (Dat.int Go.IntKind.i64 n3), AV.d (Dat.str s4), AV.d (Dat.lst 32 l5), AV.d (Dat.lst 9 l6)]),
                          (1003, [AV.d (Dat.int Go.IntKind.i64 n7), AV.d (Dat.int Go.IntKind.i64 n8), AV.d (Dat.str s9), AV.d (Dat.lst 32 l10), AV.d (Dat.lst 9 l11)])] }))
            (SS
              (Key.call 70
                [AV.agg
                    [AV.d (Dat.int Go.IntKind.i64 ((l5.getD n1.toNat []).getD 0 Dat.nilP).i), AV.d (Dat.int Go.IntKind.i64 ((l5.getD n1.toNat []).getD 1 Dat.nilP).i), AV.d (Dat.str ((l5.getD n1.toNat []).getD 2 Dat.nilP).s),
                      AV.d (Dat.lst 32 ((l5.getD n1.toNat []).getD 3 Dat.nilP).l), AV.d (Dat.lst 9 ((l5.getD n1.toNat []).getD 4 Dat.nilP).l)],
                  AV.agg
                    [AV.d (Dat.int Go.IntKind.i64 ((l10.getD n1.toNat []).getD 0 Dat.nilP).i), AV.d (Dat.int Go.IntKind.i64 ((l10.getD n1.toNat []).getD 1 Dat.nilP).i), AV.d (Dat.str ((l10.getD n1.toNat []).getD 2 Dat.nilP).s),
                      AV.d (Dat.lst 32 ((l10.getD n1.toNat []).getD 3 Dat.nilP).l), AV.d (Dat.lst 9 ((l10.getD n1.toNat []).getD 4 Dat.nilP).l)]]
                []))
        else none
      else none
else
  bindR Out none false [3] [] (fun v => some (Res.panic (4, v).snd))
    (fun rs xs =>
      bindR Out none false [3] [] (fun v => some (Res.panic (9, v).snd))
        (fun rs_1 xs =>
          bindR Out none false [3] [] (fun v => some (Res.panic (16, v).snd))
            (fun rs_2 xs =>
              bindR Out none false [3] [] (fun v => some (Res.panic (18, v).snd)) (fun rs xs => some (Res.ret false [3] [Dat.int Go.IntKind.i64 (rs.getD 0 Dat.nilP).i] []))
                (SS (Key.call 77 [AV.d (Dat.lst 3 [[Dat.int Go.IntKind.i64 (rs.getD 0 Dat.nilP).i], [Dat.int Go.IntKind.i64 (rs_1.getD 0 Dat.nilP).i], [Dat.int Go.IntKind.i64 (rs_2.getD 0 Dat.nilP).i]])] [])))
            (SS (Key.call 76 [AV.d (Dat.int Go.IntKind.i64 (↑l5.length : Int)), AV.d (Dat.int Go.IntKind.i64 (↑l10.length : Int))] [])))
        (SS (Key.call 78 [AV.d (Dat.str s4), AV.d (Dat.str s9)] [])))
    (SS (Key.call 76 [AV.d (Dat.int Go.IntKind.i64 n3), AV.d (Dat.int Go.IntKind.i64 n8)] []))) = some r) :
  SS (Key.pt 70 [] 58
  { tmps := [(2, AV.ptr 1002 0), (3, AV.ptr 1003 0), (23, AV.d (Dat.int Go.IntKind.i64 n0)), (24, AV.d (Dat.int Go.IntKind.i64 n1))],
    boxes :=
      [(1002, [AV.d (Dat.int Go.IntKind.i64 n2), AV.d (Dat.int Go.IntKind.i64 n3), AV.d (Dat.str s4), AV.d (Dat.lst 32 l5), AV.d (Dat.lst 9 l6)]),
        (1003, [AV.d (Dat.int Go.IntKind.i64 n7), AV.d (Dat.int Go.IntKind.i64 n8), AV.d (Dat.str s9), AV.d (Dat.lst 32 l10), AV.d (Dat.lst 9 l11)])] }) = some r := ssOf (by kernel_rfl) h

theorem c71 (l0 : List (List Dat)) {r : Res} (h :
  (bif decide ((↑l0.length : Int) ≤ 6) then
  bindR Out none false [4] [] (fun v => some (Res.panic v)) (fun rs xs => some (Res.ret false [4] [Dat.bool !(rs.getD 0 Dat.nilP).b] [])) (SS (Key.call 72 [AV.d (Dat.lst 119 l0), AV.d (Dat.fn 130 [])] []))
else some (Res.ret false [4] [Dat.bool false] [])) = some r) :
  SS (Key.call 71 [AV.d (Dat.lst 119 l0)] []) = some r := ssOf (by kernel_rfl) h

theorem c72 (l0 : List (List Dat)) {r : Res} (h :
  (bindR Out none false [3] [] (fun v => some (Res.panic v)) (fun rs xs => some (Res.ret false [4] [Dat.bool (decide ((rs.getD 0 Dat.nilP).i ≥ 0))] [])) (SS (Key.call 132 [AV.d (Dat.lst 119 l0), AV.d (Dat.fn 73 [])] []))) = some r) :
  SS (Key.call 72 [AV.d (Dat.lst 119 l0), AV.d (Dat.fn 73 [])] []) = some r := ssOf (by kernel_rfl) h

theorem c74 (l0 : List (List Dat)) (l1 : List (List Dat)) {r : Res} (h :
  (SS
  (Key.pt 74 [] 26
    {
      tmps :=
        [(0, AV.d (Dat.lst 119 l0)), (1, AV.d (Dat.lst 119 l1)), (2, AV.d (Dat.fn 75 [])), (13, AV.d (Dat.int Go.IntKind.i64 (if (↑l1.length : Int) < (↑l0.length : Int) then (↑l1.length : Int) else (↑l0.length : Int)))),
          (14, AV.d (Dat.int Go.IntKind.i64 0))],
      boxes := [] })) = some r) :
  SS (Key.call 74 [AV.d (Dat.lst 119 l0), AV.d (Dat.lst 119 l1), AV.d (Dat.fn 75 [])] []) = some r := ssOf (by kernel_rfl) h

theorem p79_26 (l0 : List (List Dat)) (n1 : Int) {r : Res} (h :
  (bif decide (n1 < (↑l0.length : Int)) then
  bif decide (0 ≤ n1) && decide (n1 < (↑l0.length : Int)) then
    bindR Out none false [4] [] (fun v => some (Res.panic (4, v).snd))
      (fun rs xs =>
        bif !(rs.getD 0 Dat.nilP).b then bif !(rs.getD 0 Dat.nilP).b then some (Res.ret false [4] [Dat.bool false] []) else none
        else
          bif decide (0 ≤ n1) && decide (n1 ≤ (↑l0.length : Int)) then
            bif decide (0 ≤ n1) && decide (n1 < (↑l0.length : Int)) then
              bindR Out none false [4] [] (fun v => some (Res.panic (14, v).snd))
                (fun rs_1 xs =>
                  bif !(rs.getD 0 Dat.nilP).b then some (Res.ret false [4] [Dat.bool false] [])
                  else
                    bif (rs_1.getD 0 Dat.nilP).b then some (Res.ret false [4] [Dat.bool false] [])
                    else SS (Key.pt 79 [] 26 { tmps := [(0, AV.d (Dat.lst 9 l0)), (3, AV.d (Dat.int Go.IntKind.i64 (Go.IntKind.i64.wrap (n1 + 1))))], boxes := [] }))
                (SS (Key.call 135 [AV.d (Dat.lst 9 (List.drop 0 (List.take n1.toNat l0))), AV.d (Dat.str ((l0.getD n1.toNat []).getD 0 Dat.nilP).s)] []))
            else none
          else none)
      (SS (Key.call 114 [AV.d (Dat.str ((l0.getD n1.toNat []).getD 0 Dat.nilP).s)] []))
  else none
else some (Res.ret false [4] [Dat.bool true] [])) = some r) :
  SS (Key.pt 79 [] 26 { tmps := [(0, AV.d (Dat.lst 9 l0)), (3, AV.d (Dat.int Go.IntKind.i64 n1))], boxes := [] }) = some r := ssOf (by kernel_rfl) h

theorem p80_58 (n0 : Int) (n1 : Int) (n2 : Int) (s3 : List UInt8) (l4 : List (List Dat)) (l5 : List (List Dat)) (n6 : Int) (n7 : Int) (s8 : List UInt8) (l9 : List (List Dat)) (l10 : List (List Dat)) {r : Res} (h :
  (bif decide (n0 < (↑l5.length : Int)) then
  bif decide (0 ≤ n0) && decide (n0 < (↑l5.length : Int)) then
    bif decide (0 ≤ n0) && decide (n0 < (↑l10.length : Int)) then
      bif !((l5.getD n0.toNat []).getD 0 Dat.nilP).s == ((l10.getD n0.toNat []).getD 0 Dat.nilP).s then some (Res.ret false [4] [Dat.bool false] [])
      else
        SS
          (Key.pt 80 [] 58
            { tmps := [(2, AV.ptr 1002 0), (3, AV.ptr 1003 0), (5, AV.d (Dat.int Go.IntKind.i64 (Go.IntKind.i64.wrap (n0 + 1))))],
              boxes :=
                [(1002, [AV.d (Dat.int Go.IntKind.i64 n1), AV.d (Dat.int Go.IntKind.i64 n2), AV.d (Dat.str s3), AV.d (Dat.lst 32 l4), AV.d (Dat.lst 9 l5)]),
                  (1003, [AV.d (Dat.int Go.IntKind.i64 n6), AV.d (Dat.int Go.IntKind.i64 n7), AV.d (Dat.str s8), AV.d (Dat.lst 32 l9), AV.d (Dat.lst 9 l10)])] })
    else none
  else none
else bindR Out none false [4] [] (fun v => some (Res.panic v)) (fun rs xs => some (Res.ret false [4] [Dat.bool (rs.getD 0 Dat.nilP).b] [])) (SS (Key.call 136 [AV.d (Dat.lst 32 l4), AV.d (Dat.lst 32 l9)] []))) = some r) :
  SS (Key.pt 80 [] 58
  { tmps := [(2, AV.ptr 1002 0), (3, AV.ptr 1003 0), (5, AV.d (Dat.int Go.IntKind.i64 n0))],
    boxes :=
      [(1002, [AV.d (Dat.int Go.IntKind.i64 n1), AV.d (Dat.int Go.IntKind.i64 n2), AV.d (Dat.str s3), AV.d (Dat.lst 32 l4), AV.d (Dat.lst 9 l5)]),
        (1003, [AV.d (Dat.int Go.IntKind.i64 n6), AV.d (Dat.int Go.IntKind.i64 n7), AV.d (Dat.str s8), AV.d (Dat.lst 32 l9), AV.d (Dat.lst 9 l10)])] }) = some r := ssOf (by kernel_rfl) h

theorem c115 (n0 : Int) (n1 : Int) (s2 : List UInt8) (l3 : List (List Dat)) (l4 : List (List Dat)) {r : Res} (h :
  (bindR Out none false [3] [] (fun v => some (Res.panic v)) (fun rs xs => some (Res.ret false [4] [Dat.bool (decide ((rs.getD 0 Dat.nilP).i ≤ 60))] []))
  (SS (Key.call 158 [AV.agg [AV.d (Dat.int Go.IntKind.i64 n0), AV.d (Dat.int Go.IntKind.i64 n1), AV.d (Dat.str s2), AV.d (Dat.lst 32 l3), AV.d (Dat.lst 9 l4)], AV.d (Dat.int Go.IntKind.i64 6)] []))) = some r) :
  SS (Key.call 115 [AV.agg [AV.d (Dat.int Go.IntKind.i64 n0), AV.d (Dat.int Go.IntKind.i64 n1), AV.d (Dat.str s2), AV.d (Dat.lst 32 l3), AV.d (Dat.lst 9 l4)]] []) = some r := ssOf (by kernel_rfl) h

theorem c62 (b0 : Bool) (b1 : Bool) {r : Res} (h :
  (bif b1 then some (Res.ret false [3] [Dat.int Go.IntKind.i64 0] []) else bif b0 then some (Res.ret false [3] [Dat.int Go.IntKind.i64 (-1)] []) else some (Res.ret false [3] [Dat.int Go.IntKind.i64 1] [])) = some r) :
  SS (Key.call 62 [AV.d (Dat.bool b0), AV.d (Dat.bool b1)] []) = some r := ssOf (by kernel_rfl) h

theorem p30_250 (n0 : Int) (n1 : Int) (n2 : Int) (s3 : List UInt8) (l4 : List (List Dat)) (l5 : List (List Dat)) (n6 : Int) (n7 : Int) (s8 : List UInt8) (l9 : List (List Dat)) (l10 : List (List Dat)) {r : Res} (h :
  (bif decide (n0 < (↑l4.length : Int)) then
  bif decide (n0 < (↑l9.length : Int)) then
    bif n1 == 5 then
      bif decide (0 ≤ n0) && decide (n0 < (↑l5.length : Int)) then
        bif decide (0 ≤ n0) && decide (n0 < (↑l10.length : Int)) then
          bif n1 == 5 then
            bif !((l5.getD n0.toNat []).getD 0 Dat.nilP).s == ((l10.getD n0.toNat []).getD 0 Dat.nilP).s then
              bif decide (0 ≤ n0) && decide (n0 < (↑l5.length : Int)) then
                bif decide (0 ≤ n0) && decide (n0 < (↑l10.length : Int)) then
                  bindR Out none false [3] [] (fun v => some (Res.panic (11, v).snd)) (fun rs xs => some (Res.ret false [3] [Dat.int Go.IntKind.i64 (rs.getD 0 Dat.nilP).i] []))
                    (SS (Key.call 62 [AV.d (Dat.bool (Go.Op.bytesLess ((l5.getD n0.toNat []).getD 0 Dat.nilP).s ((l10.getD n0.toNat []).getD 0 Dat.nilP).s)), AV.d (Dat.bool false)] []))
                else none
              else none
            else
              bif decide (0 ≤ n0) && decide (n0 < (↑l4.length : Int)) then
                bif decide (0 ≤ n0) && decide (n0 < (↑l9.length : Int)) then
                  bindR Out none false [3] [] (fun v => some (Res.panic (10, v).snd))
                    (fun rs xs =>
                      bif (rs.getD 0 Dat.nilP).i != 0 then some (Res.ret false [3] [Dat.int Go.IntKind.i64 (rs.getD 0 Dat.nilP).i] [])
                      else
                        SS
                          (Key.pt 30 [] 250
                            { tmps := [(2, AV.ptr 1002 0), (3, AV.ptr 1003 0), (5, AV.d (Dat.int Go.IntKind.i64 (Go.IntKind.i64.wrap (n0 + 1))))],
                              boxes :=
                                [(1002, [AV.d (Dat.int Go.IntKind.i64 n1), AV.d (Dat.int Go.IntKind.i64 n2), AV.d (Dat.str s3), AV.d (Dat.lst 32 l4), AV.d (Dat.lst 9 l5)]),
                                  (1003, [AV.d (Dat.int Go.IntKind.i64 n6), AV.d (Dat.int Go.IntKind.i64 n7), AV.d (Dat.str s8), AV.d (Dat.lst 32 l9), AV.d (Dat.lst 9 l10)])] }))
                    (SS
                      (Key.call 30
                        [AV.agg
                            [AV.d (Dat.int Go.IntKind.i64 ((l4.getD n0.toNat []).getD 0 Dat.nilP).i), AV.d (Dat.int Go.IntKind.i64 ((l4.getD n0.toNat []).getD 1 Dat.nilP).i), AV.d (Dat.str ((l4.getD n0.toNat []).getD 2 Dat.nilP).s),
                              AV.d (Dat.lst 32 ((l4.getD n0.toNat []).getD 3 Dat.nilP).l), AV.d (Dat.lst 9 ((l4.getD n0.toNat []).getD 4 Dat.nilP).l)],
                          AV.agg
                            [AV.d (Dat.int Go.IntKind.i64 ((l9.getD n0.toNat []).getD 0 Dat.nilP).i), AV.d (Dat.int Go.IntKind.i64 ((l9.getD n0.toNat []).getD 1 Dat.nilP).i), AV.d (Dat.str ((l9.getD n0.toNat []).getD 2 Dat.nilP).s),
                              AV.d (Dat.lst 32 ((l9.getD n0.toNat []).getD 3 Dat.nilP).l), AV.d (Dat.lst 9 ((l9.getD n0.toNat []).getD 4 Dat.nilP).l)]]
                        []))
                else none
              else none
          else
            bif decide (0 ≤ n0) && decide (n0 < (↑l4.length : Int)) then
              bif decide (0 ≤ n0) && decide (n0 < (↑l9.length : Int)) then
                bindR Out none false [3] [] (fun v => some (Res.panic (10, v).snd))
                  (fun rs xs =>
                    bif (rs.getD 0 Dat.nilP).i != 0 then some (Res.ret false [3] [Dat.int Go.IntKind.i64 (rs.getD 0 Dat.nilP).i] [])
                    else
                      SS
                        (Key.pt 30 [] 250
                          { tmps := [(2, AV.ptr 1002 0), (3, AV.ptr 1003 0), (5, AV.d (Dat.int Go.IntKind.i64 (Go.IntKind.i64.wrap (n0 + 1))))],
                            boxes :=
                              [(1002, [AV.d (Dat.int Go.IntKind.i64 n1), AV.d (Dat.int Go.IntKind.i64 n2), AV.d (Dat.str s3), AV.d (Dat.lst 32 l4), AV.d (Dat.lst 9 l5)]),
                                (1003, [AV.d (Dat.int Go.IntKind.i64 n6), AV.d (Dat.int Go.IntKind.i64 n7), AV.d (Dat.str s8), AV.d (Dat.lst 32 l9), AV.d (Dat.lst 9 l10)])] }))
                  (SS
                    (Key.call 30
                      [AV.agg
                          [AV.d (Dat.int Go.IntKind.i64 ((l4.getD n0.toNat []).getD 0 Dat.nilP).i), AV.d (Dat.int Go.IntKind.i64 ((l4.getD n0.toNat []).getD 1 Dat.nilP).i), AV.d (Dat.str ((l4.getD n0.toNat []).getD 2 Dat.nilP).s),
                            AV.d (Dat.lst 32 ((l4.getD n0.toNat []).getD 3 Dat.nilP).l), AV.d (Dat.lst 9 ((l4.getD n0.toNat []).getD 4 Dat.nilP).l)],
                        AV.agg
                          [AV.d (Dat.int Go.IntKind.i64 ((l9.getD n0.toNat []).getD 0 Dat.nilP).i), AV.d (Dat.int Go.IntKind.i64 ((l9.getD n0.toNat []).getD 1 Dat.nilP).i), AV.d (Dat.str ((l9.getD n0.toNat []).getD 2 Dat.nilP).s),
                            AV.d (Dat.lst 32 ((l9.getD n0.toNat []).getD 3 Dat.nilP).l), AV.d (Dat.lst 9 ((l9.getD n0.toNat []).getD 4 Dat.nilP).l)]]
                      []))
              else none
            else none
        else none
      else none
    else
      bif n1 == 5 then none
      else
        bif decide (0 ≤ n0) && decide (n0 < (↑l4.length : Int)) then
          bif decide (0 ≤ n0) && decide (n0 < (↑l9.length : Int)) then
            bindR Out none false [3] [] (fun v => some (Res.panic (10, v).snd))
              (fun rs xs =>
                bif (rs.getD 0 Dat.nilP).i != 0 then some (Res.ret false [3] [Dat.int Go.IntKind.i64 (rs.getD 0 Dat.nilP).i] [])
                else
                  SS
                    (Key.pt 30 [] 250
                      { tmps := [(2, AV.ptr 1002 0), (3, AV.ptr 1003 0), (5, AV.d (Dat.int Go.IntKind.i64 (Go.IntKind.i64.wrap (n0 + 1))))],
                        boxes :=
                          [(1002, [AV.d (Dat.int Go.IntKind.i64 n1), AV.d (Dat.int Go.IntKind.i64 n2), AV.d (Dat.str s3), AV.d (Dat.lst 32 l4), AV.d (Dat.lst 9 l5)]),
                            (1003, [AV.d (Dat.int Go.IntKind.i64 n6), AV.d (Dat.int Go.IntKind.i64 n7), AV.d (Dat.str s8), AV.d (Dat.lst 32 l9), AV.d (Dat.lst 9 l10)])] }))
              (SS
                (Key.call 30
                  [AV.agg
                      [AV.d (Dat.int Go.IntKind.i64 ((l4.getD n0.toNat []).getD 0 Dat.nilP).i), AV.d (Dat.int Go.IntKind.i64 ((l4.getD n0.toNat []).getD 1 Dat.nilP).i), AV.d (Dat.str ((l4.getD n0.toNat []).getD 2 Dat.nilP).s),
                        AV.d (Dat.lst 32 ((l4.getD n0.toNat []).getD 3 Dat.nilP).l), AV.d (Dat.lst 9 ((l4.getD n0.toNat []).getD 4 Dat.nilP).l)],
                    AV.agg
                      [AV.d (Dat.int Go.IntKind.i64 ((l9.getD n0.toNat []).getD 0 Dat.nilP).i), AV.d (Dat.int Go.IntKind.i64 ((l9.getD n0.toNat []).getD 1 Dat.nilP).i), AV.d (Dat.str ((l9.getD n0.toNat []).getD 2 Dat.nilP).s),
                        AV.d (Dat.lst 32 ((l9.getD n0.toNat []).getD 3 Dat.nilP).l), AV.d (Dat.lst 9 ((l9.getD n0.toNat []).getD 4 Dat.nilP).l)]]
                  []))
          else none
        else none
  else
    bindR Out none false [3] [] (fun v => some (Res.panic v)) (fun rs xs => some (Res.ret false [3] [Dat.int Go.IntKind.i64 (rs.getD 0 Dat.nilP).i] []))
      (SS (Key.call 62 [AV.d (Dat.bool (decide ((↑l4.length : Int) < (↑l9.length : Int)))), AV.d (Dat.bool ((↑l4.length : Int) == (↑l9.length : Int)))] []))
else
  bindR Out none false [3] [] (fun v => some (Res.panic v)) (fun rs xs => some (Res.ret false [3] [Dat.int Go.IntKind.i64 (rs.getD 0 Dat.nilP).i] []))
    (SS (Key.call 62 [AV.d (Dat.bool (decide ((↑l4.length : Int) < (↑l9.length : Int)))), AV.d (Dat.bool ((↑l4.length : Int) == (↑l9.length : Int)))] []))) = some r) :
  SS (Key.pt 30 [] 250
  { tmps := [(2, AV.ptr 1002 0), (3, AV.ptr 1003 0), (5, AV.d (Dat.int Go.IntKind.i64 n0))],
    boxes :=
      [(1002, [AV.d (Dat.int Go.IntKind.i64 n1), AV.d (Dat.int Go.IntKind.i64 n2), AV.d (Dat.str s3), AV.d (Dat.lst 32 l4), AV.d (Dat.lst 9 l5)]),
        (1003, [AV.d (Dat.int Go.IntKind.i64 n6), AV.d (Dat.int Go.IntKind.i64 n7), AV.d (Dat.str s8), AV.d (Dat.lst 32 l9), AV.d (Dat.lst 9 l10)])] }) = some r := ssOf (by kernel_rfl) h

theorem c83 (l0 : List (List Dat)) {r : Res} (h :
  (bif decide ((↑l0.length : Int) > 6) then some (Res.ret false [4] [Dat.bool false] []) else SS (Key.pt 83 [] 58 { tmps := [(0, AV.d (Dat.lst 119 l0)), (3, AV.d (Dat.int Go.IntKind.i64 0))], boxes := [] })) = some r) :
  SS (Key.call 83 [AV.d (Dat.lst 119 l0)] []) = some r := ssOf (by kernel_rfl) h

theorem p11_32039 (n0 : Int) (n1 : Int) (l2 : List (List Dat)) (n3 : Int) (n4 : Int) (n5 : Int) (l6 : List (List Dat)) (l7 : List (List Dat)) (n8 : Int) (l9 : List (List Dat)) (n10 : Int) (n11 : Int) (n12 : Int) (n13 : Int) (s14 : List UInt8) (l15 : List (List Dat)) (l16 : List (List Dat)) (n17 : Int) (n18 : Int) (s19 : List UInt8) (l20 : List (List Dat)) (l21 : List (List Dat)) {r : Res} (h :
  (bif n1 == 0 then
  bif n1 == 0 then
    SS
      (Key.pt 11 [] 64079
        { tmps := [(1, AV.ptr 1001 0), (4, AV.d (Dat.int Go.IntKind.i64 0)), (5, AV.d (Dat.int Go.IntKind.i64 n1))],
          boxes := [(1001, [AV.d (Dat.lst 83 l2), AV.d (Dat.int Go.IntKind.i64 n3), AV.d (Dat.int Go.IntKind.i64 n4), AV.d (Dat.int Go.IntKind.i64 n5), AV.d (Dat.lst 43 l6), AV.d (Dat.lst 86 l7)])] })
  else none
else
  bif decide (0 ≤ Go.IntKind.i64.wrap (n1 - 1)) && decide (Go.IntKind.i64.wrap (n1 - 1) < (↑l7.length : Int)) then
    bif n1 == 0 then
      SS
        (Key.pt 11 [] 64079
          { tmps := [(1, AV.ptr 1001 0), (4, AV.d (Dat.int Go.IntKind.i64 0)), (5, AV.d (Dat.int Go.IntKind.i64 n1))],
            boxes := [(1001, [AV.d (Dat.lst 83 l2), AV.d (Dat.int Go.IntKind.i64 n3), AV.d (Dat.int Go.IntKind.i64 n4), AV.d (Dat.int Go.IntKind.i64 n5), AV.d (Dat.lst 43 l6), AV.d (Dat.lst 86 l7)])] })
    else
      bif ((l7.getD (Go.IntKind.i64.wrap (n1 - 1)).toNat []).getD 0 Dat.nilP).i != n8 then
        SS
          (Key.pt 11 [] 64079
            { tmps := [(1, AV.ptr 1001 0), (4, AV.d (Dat.int Go.IntKind.i64 0)), (5, AV.d (Dat.int Go.IntKind.i64 n1))],
              boxes := [(1001, [AV.d (Dat.lst 83 l2), AV.d (Dat.int Go.IntKind.i64 n3), AV.d (Dat.int Go.IntKind.i64 n4), AV.d (Dat.int Go.IntKind.i64 n5), AV.d (Dat.lst 43 l6), AV.d (Dat.lst 86 l7)])] })
      else
        SS
          (Key.pt 11 [] 64079
            { tmps := [(1, AV.ptr 1001 0), (4, AV.d (Dat.int Go.IntKind.i64 n0)), (5, AV.d (Dat.int Go.IntKind.i64 n1))],
              boxes := [(1001, [AV.d (Dat.lst 83 l2), AV.d (Dat.int Go.IntKind.i64 n3), AV.d (Dat.int Go.IntKind.i64 n4), AV.d (Dat.int Go.IntKind.i64 n5), AV.d (Dat.lst 43 l6), AV.d (Dat.lst 86 l7)])] })
  else none) = some r) :
  SS (Key.pt 11 [] 32039
  { tmps := [(1, AV.ptr 1001 0), (4, AV.d (Dat.int Go.IntKind.i64 n0)), (5, AV.d (Dat.int Go.IntKind.i64 n1)), (6, AV.ptr 1006 0)],
    boxes :=
      [(1001, [AV.d (Dat.lst 83 l2), AV.d (Dat.int Go.IntKind.i64 n3), AV.d (Dat.int Go.IntKind.i64 n4), AV.d (Dat.int Go.IntKind.i64 n5), AV.d (Dat.lst 43 l6), AV.d (Dat.lst 86 l7)]),
        (1006,
          [AV.d (Dat.int Go.IntKind.i64 n8), AV.d (Dat.lst 119 l9), AV.d (Dat.int Go.IntKind.i64 n10), AV.d (Dat.int Go.IntKind.i64 n11), AV.d (Dat.int Go.IntKind.i64 n12), AV.d (Dat.int Go.IntKind.i64 n13), AV.d (Dat.str s14),
            AV.d (Dat.lst 32 l15), AV.d (Dat.lst 9 l16), AV.d (Dat.int Go.IntKind.i64 n17), AV.d (Dat.int Go.IntKind.i64 n18), AV.d (Dat.str s19), AV.d (Dat.lst 32 l20), AV.d (Dat.lst 9 l21)])] }) = some r := ssOf (by kernel_rfl) h

theorem c41 (l0 : List (List Dat)) (l1 : List (List Dat)) {r : Res} (h :
  (SS (Key.pt 41 [] 26 { tmps := [(0, AV.d (Dat.lst 119 l0)), (1, AV.d (Dat.lst 119 l1)), (5, AV.d (Dat.int Go.IntKind.i64 0))], boxes := [] })) = some r) :
  SS (Key.call 41 [AV.d (Dat.lst 119 l0), AV.d (Dat.lst 119 l1)] []) = some r := ssOf (by kernel_rfl) h

theorem c179 (n0 : Int) (n1 : Int) (s2 : List UInt8) (l3 : List (List Dat)) (l4 : List (List Dat)) (n5 : Int) (n6 : Int) {r : Res} (h :
  (bif decide (n5 < 1) then some (Res.ret false [4] [Dat.bool false] [[(Dat.int Go.IntKind.i64 (Go.IntKind.i64.wrap (n6 + 1)), false)]])
else
  bif decide (Go.IntKind.i64.wrap (n6 + 1) > 60) then some (Res.ret false [4] [Dat.bool false] [[(Dat.int Go.IntKind.i64 (Go.IntKind.i64.wrap (n6 + 1)), false)]])
  else
    bif (↑l3.length : Int) == 0 then
      bif n0 == 0 then
        bif (↑l4.length : Int) == 0 then
          bif n1 == 0 then some (Res.ret false [4] [Dat.bool (s2 == [])] [[(Dat.int Go.IntKind.i64 (Go.IntKind.i64.wrap (n6 + 1)), false)]])
          else some (Res.ret false [4] [Dat.bool false] [[(Dat.int Go.IntKind.i64 (Go.IntKind.i64.wrap (n6 + 1)), false)]])
        else some (Res.ret false [4] [Dat.bool false] [[(Dat.int Go.IntKind.i64 (Go.IntKind.i64.wrap (n6 + 1)), false)]])
      else
        bif n0 == 1 then
          bif (↑l4.length : Int) == 0 then
            bif n1 == 0 then some (Res.ret false [4] [Dat.bool (s2 == [])] [[(Dat.int Go.IntKind.i64 (Go.IntKind.i64.wrap (n6 + 1)), false)]])
            else
              bif n1 == 1 then some (Res.ret false [4] [Dat.bool (s2 == [])] [[(Dat.int Go.IntKind.i64 (Go.IntKind.i64.wrap (n6 + 1)), false)]])
              else some (Res.ret false [4] [Dat.bool false] [[(Dat.int Go.IntKind.i64 (Go.IntKind.i64.wrap (n6 + 1)), false)]])
          else some (Res.ret false [4] [Dat.bool false] [[(Dat.int Go.IntKind.i64 (Go.IntKind.i64.wrap (n6 + 1)), false)]])
        else
          bif n0 == 2 then
            bif (↑l4.length : Int) == 0 then
              bif decide (n1 ≥ -1000000000000) then
                bif decide (n1 ≤ 1000000000000) then some (Res.ret false [4] [Dat.bool (s2 == [])] [[(Dat.int Go.IntKind.i64 (Go.IntKind.i64.wrap (n6 + 1)), false)]])
                else some (Res.ret false [4] [Dat.bool false] [[(Dat.int Go.IntKind.i64 (Go.IntKind.i64.wrap (n6 + 1)), false)]])
              else some (Res.ret false [4] [Dat.bool false] [[(Dat.int Go.IntKind.i64 (Go.IntKind.i64.wrap (n6 + 1)), false)]])
            else some (Res.ret false [4] [Dat.bool false] [[(Dat.int Go.IntKind.i64 (Go.IntKind.i64.wrap (n6 + 1)), false)]])
          else
            bif n0 == 3 then
              bif (↑l4.length : Int) == 0 then
                bif n1 == 0 then
                  bindR Out none false [4] [] (fun v => some (Res.panic v)) (fun rs xs => some (Res.ret false [4] [Dat.bool (rs.getD 0 Dat.nilP).b] [[(Dat.int Go.IntKind.i64 (Go.IntKind.i64.wrap (n6 + 1)), false)]]))
                    (SS (Key.call 222 [AV.d (Dat.str s2)] []))
                else some (Res.ret false [4] [Dat.bool false] [[(Dat.int Go.IntKind.i64 (Go.IntKind.i64.wrap (n6 + 1)), false)]])
              else some (Res.ret false [4] [Dat.bool false] [[(Dat.int Go.IntKind.i64 (Go.IntKind.i64.wrap (n6 + 1)), false)]])
            else
              bif n0 == 5 then
                bif (↑l4.length : Int) != (↑l3.length : Int) then some (Res.ret false [4] [Dat.bool false] [[(Dat.int Go.IntKind.i64 (Go.IntKind.i64.wrap (n6 + 1)), false)]])
                else
                  SS
                    (Key.pt 179 [[AV.d Dat.nilP]] 2056182
                      { tmps := [(3, AV.ptr 1003 0), (4, AV.ptr 1004 0), (5, AV.ptr 1005 0), (107, AV.d (Dat.lst 9 l4)), (108, AV.d (Dat.int Go.IntKind.i64 (↑l4.length : Int))), (109, AV.d (Dat.int Go.IntKind.i64 0))],
                        boxes :=
                          [(0, [AV.d (Dat.int Go.IntKind.i64 (Go.IntKind.i64.wrap (n6 + 1)))]), (1003, [AV.d (Dat.int Go.IntKind.i64 n0), AV.d (Dat.int Go.IntKind.i64 n1), AV.d (Dat.str s2), AV.d (Dat.lst 32 l3), AV.d (Dat.lst 9 l4)]),
                            (1004, [AV.d (Dat.int Go.IntKind.i64 n5)]), (1005, [AV.ptr 0 0])] })
              else
                bif n0 == 4 then
                  bif decide ((↑l4.length : Int) > 0) then some (Res.ret false [4] [Dat.bool false] [[(Dat.int Go.IntKind.i64 (Go.IntKind.i64.wrap (n6 + 1)), false)]])
                  else
                    bif n1 == 0 then
                      bif s2 == [] then
                        bindR Out none false [4] [[AV.d (Dat.int Go.IntKind.i64 n5)], [AV.ptr 0 0], [AV.d (Dat.int Go.IntKind.i64 (Go.IntKind.i64.wrap (n6 + 1)))]] (fun v => some (Res.panic v))
                          (fun rs xs => some (Res.ret false [4] [Dat.bool !(rs.getD 0 Dat.nilP).b] [[(Dat.int Go.IntKind.i64 (xat xs 2 0).i, false)]]))
                          (SS (Key.call 223 [AV.d (Dat.lst 32 l3), AV.fn 224 [AV.ptr 0 0, AV.ptr 1 0]] [[AV.d (Dat.int Go.IntKind.i64 n5)], [AV.ptr 2 0], [AV.d (Dat.int Go.IntKind.i64 (Go.IntKind.i64.wrap (n6 + 1)))]]))
                      else some (Res.ret false [4] [Dat.bool false] [[(Dat.int Go.IntKind.i64 (Go.IntKind.i64.wrap (n6 + 1)), false)]])
                    else some (Res.ret false [4] [Dat.bool false] [[(Dat.int Go.IntKind.i64 (Go.IntKind.i64.wrap (n6 + 1)), false)]])
                else some (Res.ret false [4] [Dat.bool false] [[(Dat.int Go.IntKind.i64 (Go.IntKind.i64.wrap (n6 + 1)), false)]])
    else
      bif n0 == 0 then some (Res.ret false [4] [Dat.bool false] [[(Dat.int Go.IntKind.i64 (Go.IntKind.i64.wrap (n6 + 1)), false)]])
      else
        bif n0 == 1 then some (Res.ret false [4] [Dat.bool false] [[(Dat.int Go.IntKind.i64 (Go.IntKind.i64.wrap (n6 + 1)), false)]])
        else
          bif n0 == 2 then some (Res.ret false [4] [Dat.bool false] [[(Dat.int Go.IntKind.i64 (Go.IntKind.i64.wrap (n6 + 1)), false)]])
          else
            bif n0 == 3 then some (Res.ret false [4] [Dat.bool false] [[(Dat.int Go.IntKind.i64 (Go.IntKind.i64.wrap (n6 + 1)), false)]])
            else
              bif n0 == 5 then
                bif (↑l4.length : Int) != (↑l3.length : Int) then some (Res.ret false [4] [Dat.bool false] [[(Dat.int Go.IntKind.i64 (Go.IntKind.i64.wrap (n6 + 1)), false)]])
                else
                  SS
                    (Key.pt 179 [[AV.d Dat.nilP]] 2056182
                      { tmps := [(3, AV.ptr 1003 0), (4, AV.ptr 1004 0), (5, AV.ptr 1005 0), (107, AV.d (Dat.lst 9 l4)), (108, AV.d (Dat.int Go.IntKind.i64 (↑l4.length : Int))), (109, AV.d (Dat.int Go.IntKind.i64 0))],
                        boxes :=
                          [(0, [AV.d (Dat.int Go.IntKind.i64 (Go.IntKind.i64.wrap (n6 + 1)))]), (1003, [AV.d (Dat.int Go.IntKind.i64 n0), AV.d (Dat.int Go.IntKind.i64 n1), AV.d (Dat.str s2), AV.d (Dat.lst 32 l3), AV.d (Dat.lst 9 l4)]),
                            (1004, [AV.d (Dat.int Go.IntKind.i64 n5)]), (1005, [AV.ptr 0 0])] })
              else
                bif n0 == 4 then
                  bif decide ((↑l4.length : Int) > 0) then some (Res.ret false [4] [Dat.bool false] [[(Dat.int Go.IntKind.i64 (Go.IntKind.i64.wrap (n6 + 1)), false)]])
                  else
                    bif n1 == 0 then
                      bif s2 == [] then
                        bindR Out none false [4] [[AV.d (Dat.int Go.IntKind.i64 n5)], [AV.ptr 0 0], [AV.d (Dat.int Go.IntKind.i64 (Go.IntKind.i64.wrap (n6 + 1)))]] (fun v => some (Res.panic v))
                          (fun rs xs => some (Res.ret false [4] [Dat.bool !(rs.getD 0 Dat.nilP).b] [[(Dat.int Go.IntKind.i64 (xat xs 2 0).i, false)]]))
                          (SS (Key.call 223 [AV.d (Dat.lst 32 l3), AV.fn 224 [AV.ptr 0 0, AV.ptr 1 0]] [[AV.d (Dat.int Go.IntKind.i64 n5)], [AV.ptr 2 0], [AV.d (Dat.int Go.IntKind.i64 (Go.IntKind.i64.wrap (n6 + 1)))]]))
                      else some (Res.ret false [4] [Dat.bool false] [[(Dat.int Go.IntKind.i64 (Go.IntKind.i64.wrap (n6 + 1)), false)]])
                    else some (Res.ret false [4] [Dat.bool false] [[(Dat.int Go.IntKind.i64 (Go.IntKind.i64.wrap (n6 + 1)), false)]])
                else some (Res.ret false [4] [Dat.bool false] [[(Dat.int Go.IntKind.i64 (Go.IntKind.i64.wrap (n6 + 1)), false)]])) = some r) :
  SS (Key.call 179 [AV.agg [AV.d (Dat.int Go.IntKind.i64 n0), AV.d (Dat.int Go.IntKind.i64 n1), AV.d (Dat.str s2), AV.d (Dat.lst 32 l3), AV.d (Dat.lst 9 l4)], AV.d (Dat.int Go.IntKind.i64 n5), AV.ptr 0 0] [[AV.d (Dat.int Go.IntKind.i64 n6)]]) = some r := ssOf (by kernel_rfl) h

theorem c133 (n0 : Int) {r : Res} (h :
  (some (Res.ret false [4] [Dat.bool (n0 != n0)] [])) = some r) :
  SS (Key.call 133 [AV.d (Dat.int Go.IntKind.i64 n0)] []) = some r := ssOf (by kernel_rfl) h

theorem c78 (s0 : List UInt8) (s1 : List UInt8) {r : Res} (h :
  (some (Res.ret false [3] [Dat.int Go.IntKind.i64 (bcmp s0 s1)] [])) = some r) :
  SS (Key.call 78 [AV.d (Dat.str s0), AV.d (Dat.str s1)] []) = some r := ssOf (by kernel_rfl) h

theorem c77 (l0 : List (List Dat)) {r : Res} (h :
  (SS (Key.pt 77 [] 58 { tmps := [(3, AV.d (Dat.int Go.IntKind.i64 0)), (6, AV.d (Dat.lst 3 l0)), (7, AV.d (Dat.int Go.IntKind.i64 (↑l0.length : Int))), (8, AV.d (Dat.int Go.IntKind.i64 0))], boxes := [] })) = some r) :
  SS (Key.call 77 [AV.d (Dat.lst 3 l0)] []) = some r := ssOf (by kernel_rfl) h

theorem c72_1 (l0 : List (List Dat)) {r : Res} (h :
  (bindR Out none false [3] [] (fun v => some (Res.panic v)) (fun rs xs => some (Res.ret false [4] [Dat.bool (decide ((rs.getD 0 Dat.nilP).i ≥ 0))] [])) (SS (Key.call 132 [AV.d (Dat.lst 119 l0), AV.d (Dat.fn 130 [])] []))) = some r) :
  SS (Key.call 72 [AV.d (Dat.lst 119 l0), AV.d (Dat.fn 130 [])] []) = some r := ssOf (by kernel_rfl) h

theorem c132 (l0 : List (List Dat)) {r : Res} (h :
  (SS (Key.pt 132 [] 26 { tmps := [(0, AV.d (Dat.lst 119 l0)), (1, AV.d (Dat.fn 73 [])), (7, AV.d (Dat.int Go.IntKind.i64 (↑l0.length : Int))), (8, AV.d (Dat.int Go.IntKind.i64 0))], boxes := [] })) = some r) :
  SS (Key.call 132 [AV.d (Dat.lst 119 l0), AV.d (Dat.fn 73 [])] []) = some r := ssOf (by kernel_rfl) h

theorem p74_26 (l0 : List (List Dat)) (l1 : List (List Dat)) (n2 : Int) (n3 : Int) {r : Res} (h :
  (bif decide (n3 < n2) then
  bif decide (0 ≤ n3) && decide (n3 < (↑l0.length : Int)) then
    bif decide (0 ≤ n3) && decide (n3 < (↑l1.length : Int)) then
      bindR Out none false [3] [] (fun v => some (Res.panic (9, v).snd))
        (fun rs xs =>
          bif (rs.getD 0 Dat.nilP).i != 0 then some (Res.ret false [3] [Dat.int Go.IntKind.i64 (rs.getD 0 Dat.nilP).i] [])
          else
            SS
              (Key.pt 74 [] 26
                { tmps := [(0, AV.d (Dat.lst 119 l0)), (1, AV.d (Dat.lst 119 l1)), (2, AV.d (Dat.fn 75 [])), (13, AV.d (Dat.int Go.IntKind.i64 n2)), (14, AV.d (Dat.int Go.IntKind.i64 (Go.IntKind.i64.wrap (n3 + 1))))], boxes := [] }))
        (SS
          (Key.call 75
            [AV.agg [AV.d (Dat.int Go.IntKind.i64 ((l0.getD n3.toNat []).getD 0 Dat.nilP).i), AV.d (Dat.str ((l0.getD n3.toNat []).getD 1 Dat.nilP).s)],
              AV.agg [AV.d (Dat.int Go.IntKind.i64 ((l1.getD n3.toNat []).getD 0 Dat.nilP).i), AV.d (Dat.str ((l1.getD n3.toNat []).getD 1 Dat.nilP).s)]]
            []))
    else none
  else none
else
  bindR Out none false [3] [] (fun v => some (Res.panic v)) (fun rs xs => some (Res.ret false [3] [Dat.int Go.IntKind.i64 (rs.getD 0 Dat.nilP).i] []))
    (SS (Key.call 76 [AV.d (Dat.int Go.IntKind.i64 (↑l0.length : Int)), AV.d (Dat.int Go.IntKind.i64 (↑l1.length : Int))] []))) = some r) :
  SS (Key.pt 74 [] 26 { tmps := [(0, AV.d (Dat.lst 119 l0)), (1, AV.d (Dat.lst 119 l1)), (2, AV.d (Dat.fn 75 [])), (13, AV.d (Dat.int Go.IntKind.i64 n2)), (14, AV.d (Dat.int Go.IntKind.i64 n3))], boxes := [] }) = some r := ssOf (by kernel_rfl) h

theorem c114 (s0 : List UInt8) {r : Res} (h :
  (bif decide ((↑s0.length : Int) < 1) then some (Res.ret false [4] [Dat.bool false] [])
else
  bif decide ((↑s0.length : Int) > 24) then some (Res.ret false [4] [Dat.bool false] [])
  else
    bif decide (0 ≤ 0) && decide (0 < (↑s0.length : Int)) then
      bif decide ((↑(s0.getD 0 0).toNat : Int) < 97) then some (Res.ret false [4] [Dat.bool false] [])
      else
        bif decide (0 ≤ 0) && decide (0 < (↑s0.length : Int)) then
          bif decide ((↑(s0.getD 0 0).toNat : Int) > 122) then some (Res.ret false [4] [Dat.bool false] []) else SS (Key.pt 114 [] 58 { tmps := [(0, AV.d (Dat.str s0)), (3, AV.d (Dat.int Go.IntKind.i64 0))], boxes := [] })
        else none
    else none) = some r) :
  SS (Key.call 114 [AV.d (Dat.str s0)] []) = some r := ssOf (by kernel_rfl) h

theorem c135 (l0 : List (List Dat)) (s1 : List UInt8) {r : Res} (h :
  (SS (Key.pt 135 [] 26 { tmps := [(0, AV.d (Dat.lst 9 l0)), (1, AV.d (Dat.str s1)), (5, AV.d (Dat.int Go.IntKind.i64 0))], boxes := [] })) = some r) :
  SS (Key.call 135 [AV.d (Dat.lst 9 l0), AV.d (Dat.str s1)] []) = some r := ssOf (by kernel_rfl) h

theorem c136 (l0 : List (List Dat)) (l1 : List (List Dat)) {r : Res} (h :
  (bif (↑l0.length : Int) != (↑l1.length : Int) then some (Res.ret false [4] [Dat.bool false] []) else SS (Key.pt 136 [] 58 { tmps := [(0, AV.d (Dat.lst 32 l0)), (1, AV.d (Dat.lst 32 l1)), (5, AV.d (Dat.int Go.IntKind.i64 0))], boxes := [] })) = some r) :
  SS (Key.call 136 [AV.d (Dat.lst 32 l0), AV.d (Dat.lst 32 l1)] []) = some r := ssOf (by kernel_rfl) h

theorem c158 (n0 : Int) (n1 : Int) (s2 : List UInt8) (l3 : List (List Dat)) (l4 : List (List Dat)) (n5 : Int) {r : Res} (h :
  (bif decide (n5 < 1) then some (Res.ret false [3] [Dat.int Go.IntKind.i64 61] [])
else
  bif decide ((↑l3.length : Int) > 60) then some (Res.ret false [3] [Dat.int Go.IntKind.i64 61] [])
  else
    bif n0 == 0 then
      bindR Out none false [4] [] (fun v => some (Res.panic v))
        (fun rs xs =>
          bif !(rs.getD 0 Dat.nilP).b then some (Res.ret false [3] [Dat.int Go.IntKind.i64 61] [])
          else
            SS
              (Key.pt 158 [] 506
                { tmps := [(1, AV.d (Dat.int Go.IntKind.i64 n5)), (2, AV.ptr 1002 0), (5, AV.d (Dat.int Go.IntKind.i64 61)), (7, AV.d (Dat.int Go.IntKind.i64 1)), (8, AV.d (Dat.int Go.IntKind.i64 0))],
                  boxes := [(1002, [AV.d (Dat.int Go.IntKind.i64 n0), AV.d (Dat.int Go.IntKind.i64 n1), AV.d (Dat.str s2), AV.d (Dat.lst 32 l3), AV.d (Dat.lst 9 l4)])] }))
        (SS
          (Key.call 209
            [AV.agg [AV.d (Dat.int Go.IntKind.i64 n0), AV.d (Dat.int Go.IntKind.i64 n1), AV.d (Dat.str s2), AV.d (Dat.lst 32 l3), AV.d (Dat.lst 9 l4)], AV.d (Dat.bool false), AV.d (Dat.bool false), AV.d (Dat.bool false),
              AV.d (Dat.bool false)]
            []))
    else
      bif n0 == 1 then
        bindR Out none false [4] [] (fun v => some (Res.panic v))
          (fun rs xs =>
            bif !(rs.getD 0 Dat.nilP).b then some (Res.ret false [3] [Dat.int Go.IntKind.i64 61] [])
            else
              bif n1 != 0 then
                bif n1 != 1 then some (Res.ret false [3] [Dat.int Go.IntKind.i64 61] [])
                else
                  SS
                    (Key.pt 158 [] 506
                      { tmps := [(1, AV.d (Dat.int Go.IntKind.i64 n5)), (2, AV.ptr 1002 0), (5, AV.d (Dat.int Go.IntKind.i64 61)), (7, AV.d (Dat.int Go.IntKind.i64 1)), (8, AV.d (Dat.int Go.IntKind.i64 0))],
                        boxes := [(1002, [AV.d (Dat.int Go.IntKind.i64 n0), AV.d (Dat.int Go.IntKind.i64 n1), AV.d (Dat.str s2), AV.d (Dat.lst 32 l3), AV.d (Dat.lst 9 l4)])] })
              else
                SS
                  (Key.pt 158 [] 506
                    { tmps := [(1, AV.d (Dat.int Go.IntKind.i64 n5)), (2, AV.ptr 1002 0), (5, AV.d (Dat.int Go.IntKind.i64 61)), (7, AV.d (Dat.int Go.IntKind.i64 1)), (8, AV.d (Dat.int Go.IntKind.i64 0))],
                      boxes := [(1002, [AV.d (Dat.int Go.IntKind.i64 n0), AV.d (Dat.int Go.IntKind.i64 n1), AV.d (Dat.str s2), AV.d (Dat.lst 32 l3), AV.d (Dat.lst 9 l4)])] }))
          (SS
            (Key.call 209
              [AV.agg [AV.d (Dat.int Go.IntKind.i64 n0), AV.d (Dat.int Go.IntKind.i64 n1), AV.d (Dat.str s2), AV.d (Dat.lst 32 l3), AV.d (Dat.lst 9 l4)], AV.d (Dat.bool true), AV.d (Dat.bool false), AV.d (Dat.bool false),
                AV.d (Dat.bool false)]
              []))
      else
        bif n0 == 2 then
          bindR Out none false [4] [] (fun v => some (Res.panic v))
            (fun rs xs =>
              bif !(rs.getD 0 Dat.nilP).b then some (Res.ret false [3] [Dat.int Go.IntKind.i64 61] [])
              else
                bif decide (n1 > 1000000000000) then some (Res.ret false [3] [Dat.int Go.IntKind.i64 61] [])
                else
                  bif decide (n1 < -1000000000000) then some (Res.ret false [3] [Dat.int Go.IntKind.i64 61] [])
                  else
                    SS
                      (Key.pt 158 [] 506
                        { tmps := [(1, AV.d (Dat.int Go.IntKind.i64 n5)), (2, AV.ptr 1002 0), (5, AV.d (Dat.int Go.IntKind.i64 61)), (7, AV.d (Dat.int Go.IntKind.i64 1)), (8, AV.d (Dat.int Go.IntKind.i64 0))],
                          boxes := [(1002, [AV.d (Dat.int Go.IntKind.i64 n0), AV.d (Dat.int Go.IntKind.i64 n1), AV.d (Dat.str s2), AV.d (Dat.lst 32 l3), AV.d (Dat.lst 9 l4)])] }))
            (SS
              (Key.call 209
                [AV.agg [AV.d (Dat.int Go.IntKind.i64 n0), AV.d (Dat.int Go.IntKind.i64 n1), AV.d (Dat.str s2), AV.d (Dat.lst 32 l3), AV.d (Dat.lst 9 l4)], AV.d (Dat.bool true), AV.d (Dat.bool false), AV.d (Dat.bool false),
                  AV.d (Dat.bool false)]
                []))
        else
          bif n0 == 3 then
            bindR Out none false [4] [] (fun v => some (Res.panic v))
              (fun rs xs =>
                bif !(rs.getD 0 Dat.nilP).b then some (Res.ret false [3] [Dat.int Go.IntKind.i64 61] [])
                else
                  bindR Out none false [4] [] (fun v => some (Res.panic v))
                    (fun rs xs =>
                      bif !(rs.getD 0 Dat.nilP).b then some (Res.ret false [3] [Dat.int Go.IntKind.i64 61] [])
                      else
                        SS
                          (Key.pt 158 [] 506
                            { tmps := [(1, AV.d (Dat.int Go.IntKind.i64 n5)), (2, AV.ptr 1002 0), (5, AV.d (Dat.int Go.IntKind.i64 61)), (7, AV.d (Dat.int Go.IntKind.i64 1)), (8, AV.d (Dat.int Go.IntKind.i64 0))],
                              boxes := [(1002, [AV.d (Dat.int Go.IntKind.i64 n0), AV.d (Dat.int Go.IntKind.i64 n1), AV.d (Dat.str s2), AV.d (Dat.lst 32 l3), AV.d (Dat.lst 9 l4)])] }))
                    (SS (Key.call 137 [AV.d (Dat.str s2)] [])))
              (SS
                (Key.call 209
                  [AV.agg [AV.d (Dat.int Go.IntKind.i64 n0), AV.d (Dat.int Go.IntKind.i64 n1), AV.d (Dat.str s2), AV.d (Dat.lst 32 l3), AV.d (Dat.lst 9 l4)], AV.d (Dat.bool false), AV.d (Dat.bool true), AV.d (Dat.bool false),
                    AV.d (Dat.bool false)]
                  []))
          else
            bif n0 == 4 then
              bindR Out none false [4] [] (fun v => some (Res.panic v))
                (fun rs xs =>
                  bif !(rs.getD 0 Dat.nilP).b then some (Res.ret false [3] [Dat.int Go.IntKind.i64 61] [])
                  else
                    SS
                      (Key.pt 158 [] 506
                        { tmps := [(1, AV.d (Dat.int Go.IntKind.i64 n5)), (2, AV.ptr 1002 0), (5, AV.d (Dat.int Go.IntKind.i64 61)), (7, AV.d (Dat.int Go.IntKind.i64 1)), (8, AV.d (Dat.int Go.IntKind.i64 0))],
                          boxes := [(1002, [AV.d (Dat.int Go.IntKind.i64 n0), AV.d (Dat.int Go.IntKind.i64 n1), AV.d (Dat.str s2), AV.d (Dat.lst 32 l3), AV.d (Dat.lst 9 l4)])] }))
                (SS
                  (Key.call 209
                    [AV.agg [AV.d (Dat.int Go.IntKind.i64 n0), AV.d (Dat.int Go.IntKind.i64 n1), AV.d (Dat.str s2), AV.d (Dat.lst 32 l3), AV.d (Dat.lst 9 l4)], AV.d (Dat.bool false), AV.d (Dat.bool false), AV.d (Dat.bool true),
                      AV.d (Dat.bool false)]
                    []))
            else
              bif n0 == 5 then
                bindR Out none false [4] [] (fun v => some (Res.panic v))
                  (fun rs xs =>
                    bif !(rs.getD 0 Dat.nilP).b then some (Res.ret false [3] [Dat.int Go.IntKind.i64 61] [])
                    else
                      bif (↑l4.length : Int) != (↑l3.length : Int) then some (Res.ret false [3] [Dat.int Go.IntKind.i64 61] [])
                      else
                        SS
                          (Key.pt 158 [] 4030454
                            { tmps := [(1, AV.d (Dat.int Go.IntKind.i64 n5)), (2, AV.ptr 1002 0), (5, AV.d (Dat.int Go.IntKind.i64 61)), (6, AV.d (Dat.int Go.IntKind.i64 0))],
                              boxes := [(1002, [AV.d (Dat.int Go.IntKind.i64 n0), AV.d (Dat.int Go.IntKind.i64 n1), AV.d (Dat.str s2), AV.d (Dat.lst 32 l3), AV.d (Dat.lst 9 l4)])] }))
                  (SS
                    (Key.call 209
                      [AV.agg [AV.d (Dat.int Go.IntKind.i64 n0), AV.d (Dat.int Go.IntKind.i64 n1), AV.d (Dat.str s2), AV.d (Dat.lst 32 l3), AV.d (Dat.lst 9 l4)], AV.d (Dat.bool false), AV.d (Dat.bool false), AV.d (Dat.bool true),
                        AV.d (Dat.bool true)]
                      []))
              else some (Res.ret false [3] [Dat.int Go.IntKind.i64 61] [])) = some r) :
  SS (Key.call 158 [AV.agg [AV.d (Dat.int Go.IntKind.i64 n0), AV.d (Dat.int Go.IntKind.i64 n1), AV.d (Dat.str s2), AV.d (Dat.lst 32 l3), AV.d (Dat.lst 9 l4)], AV.d (Dat.int Go.IntKind.i64 n5)] []) = some r := ssOf (by kernel_rfl) h

theorem p83_58 (l0 : List (List Dat)) (n1 : Int) {r : Res} (h :
  (bif decide (n1 < (↑l0.length : Int)) then
  bif decide (0 ≤ n1) && decide (n1 < (↑l0.length : Int)) then
    bif decide (((l0.getD n1.toNat []).getD 0 Dat.nilP).i < -1) then some (Res.ret false [4] [Dat.bool false] [])
    else
      bif decide (0 ≤ n1) && decide (n1 < (↑l0.length : Int)) then
        bif decide (((l0.getD n1.toNat []).getD 0 Dat.nilP).i > 99) then some (Res.ret false [4] [Dat.bool false] [])
        else
          bif decide (0 ≤ n1) && decide (n1 < (↑l0.length : Int)) then
            bif decide (((l0.getD n1.toNat []).getD 0 Dat.nilP).i ≥ 0) then
              bif decide (0 ≤ n1) && decide (n1 < (↑l0.length : Int)) then
                bif !((l0.getD n1.toNat []).getD 1 Dat.nilP).s == [] then some (Res.ret false [4] [Dat.bool false] [])
                else
                  bif decide (0 ≤ n1) && decide (n1 < (↑l0.length : Int)) then
                    bindR Out none false [4] [] (fun v => some (Res.panic v))
                      (fun rs xs =>
                        bif !(rs.getD 0 Dat.nilP).b then some (Res.ret false [4] [Dat.bool false] [])
                        else SS (Key.pt 83 [] 58 { tmps := [(0, AV.d (Dat.lst 119 l0)), (3, AV.d (Dat.int Go.IntKind.i64 (Go.IntKind.i64.wrap (n1 + 1))))], boxes := [] }))
                      (SS (Key.call 137 [AV.d (Dat.str ((l0.getD n1.toNat []).getD 1 Dat.nilP).s)] []))
                  else none
              else none
            else
              bif decide (0 ≤ n1) && decide (n1 < (↑l0.length : Int)) then
                bindR Out none false [4] [] (fun v => some (Res.panic v))
                  (fun rs xs =>
                    bif !(rs.getD 0 Dat.nilP).b then some (Res.ret false [4] [Dat.bool false] [])
                    else SS (Key.pt 83 [] 58 { tmps := [(0, AV.d (Dat.lst 119 l0)), (3, AV.d (Dat.int Go.IntKind.i64 (Go.IntKind.i64.wrap (n1 + 1))))], boxes := [] }))
                  (SS (Key.call 137 [AV.d (Dat.str ((l0.getD n1.toNat []).getD 1 Dat.nilP).s)] []))
              else none
          else none
      else none
  else none
else some (Res.ret false [4] [Dat.bool true] [])) = some r) :
  SS (Key.pt 83 [] 58 { tmps := [(0, AV.d (Dat.lst 119 l0)), (3, AV.d (Dat.int Go.IntKind.i64 n1))], boxes := [] }) = some r := ssOf (by kernel_rfl) h

theorem p11_64079 (n0 : Int) (n1 : Int) (l2 : List (List Dat)) (n3 : Int) (n4 : Int) (n5 : Int) (l6 : List (List Dat)) (l7 : List (List Dat)) {r : Res} (h :
  (bif decide (Go.IntKind.i64.wrap (n0 + 1) > 8) then some (Res.ret false [4] [Dat.bool false] [])
else
  SS
    (Key.pt 11 [] 250
      { tmps := [(1, AV.ptr 1001 0), (4, AV.d (Dat.int Go.IntKind.i64 (Go.IntKind.i64.wrap (n0 + 1)))), (5, AV.d (Dat.int Go.IntKind.i64 (Go.IntKind.i64.wrap (n1 + 1))))],
        boxes := [(1001, [AV.d (Dat.lst 83 l2), AV.d (Dat.int Go.IntKind.i64 n3), AV.d (Dat.int Go.IntKind.i64 n4), AV.d (Dat.int Go.IntKind.i64 n5), AV.d (Dat.lst 43 l6), AV.d (Dat.lst 86 l7)])] })) = some r) :
  SS (Key.pt 11 [] 64079
  { tmps := [(1, AV.ptr 1001 0), (4, AV.d (Dat.int Go.IntKind.i64 n0)), (5, AV.d (Dat.int Go.IntKind.i64 n1))],
    boxes := [(1001, [AV.d (Dat.lst 83 l2), AV.d (Dat.int Go.IntKind.i64 n3), AV.d (Dat.int Go.IntKind.i64 n4), AV.d (Dat.int Go.IntKind.i64 n5), AV.d (Dat.lst 43 l6), AV.d (Dat.lst 86 l7)])] }) = some r := ssOf (by kernel_rfl) h

theorem p41_26 (l0 : List (List Dat)) (l1 : List (List Dat)) (n2 : Int) {r : Res} (h :
  (bif decide (n2 < (↑l0.length : Int)) then
  bif decide (n2 < (↑l1.length : Int)) then
    bif decide (0 ≤ n2) && decide (n2 < (↑l0.length : Int)) then
      bif decide (0 ≤ n2) && decide (n2 < (↑l1.length : Int)) then
        bif ((l0.getD n2.toNat []).getD 0 Dat.nilP).i == ((l1.getD n2.toNat []).getD 0 Dat.nilP).i && (((l0.getD n2.toNat []).getD 1 Dat.nilP).s == ((l1.getD n2.toNat []).getD 1 Dat.nilP).s && true) then
          SS (Key.pt 41 [] 26 { tmps := [(0, AV.d (Dat.lst 119 l0)), (1, AV.d (Dat.lst 119 l1)), (5, AV.d (Dat.int Go.IntKind.i64 (Go.IntKind.i64.wrap (n2 + 1))))], boxes := [] })
        else
          bif decide (((l0.getD n2.toNat []).getD 0 Dat.nilP).i ≥ 0) then
            bif decide (((l1.getD n2.toNat []).getD 0 Dat.nilP).i < 0) then some (Res.ret false [3] [Dat.int Go.IntKind.i64 (-1)] [])
            else
              bif decide (((l0.getD n2.toNat []).getD 0 Dat.nilP).i < ((l1.getD n2.toNat []).getD 0 Dat.nilP).i) then some (Res.ret false [3] [Dat.int Go.IntKind.i64 (-1)] [])
              else
                bif decide (((l0.getD n2.toNat []).getD 0 Dat.nilP).i < 0) then
                  bif decide (((l1.getD n2.toNat []).getD 0 Dat.nilP).i < 0) then
                    bif Go.Op.bytesLess ((l0.getD n2.toNat []).getD 1 Dat.nilP).s ((l1.getD n2.toNat []).getD 1 Dat.nilP).s then some (Res.ret false [3] [Dat.int Go.IntKind.i64 (-1)] [])
                    else some (Res.ret false [3] [Dat.int Go.IntKind.i64 1] [])
                  else some (Res.ret false [3] [Dat.int Go.IntKind.i64 1] [])
                else some (Res.ret false [3] [Dat.int Go.IntKind.i64 1] [])
          else
            bif decide (((l0.getD n2.toNat []).getD 0 Dat.nilP).i < 0) then
              bif decide (((l1.getD n2.toNat []).getD 0 Dat.nilP).i < 0) then
                bif Go.Op.bytesLess ((l0.getD n2.toNat []).getD 1 Dat.nilP).s ((l1.getD n2.toNat []).getD 1 Dat.nilP).s then some (Res.ret false [3] [Dat.int Go.IntKind.i64 (-1)] [])
                else some (Res.ret false [3] [Dat.int Go.IntKind.i64 1] [])
              else some (Res.ret false [3] [Dat.int Go.IntKind.i64 1] [])
            else some (Res.ret false [3] [Dat.int Go.IntKind.i64 1] [])
      else none
    else none
  else
    bif decide ((↑l0.length : Int) < (↑l1.length : Int)) then some (Res.ret false [3] [Dat.int Go.IntKind.i64 (-1)] [])
    else bif decide ((↑l0.length : Int) > (↑l1.length : Int)) then some (Res.ret false [3] [Dat.int Go.IntKind.i64 1] []) else some (Res.ret false [3] [Dat.int Go.IntKind.i64 0] [])
else
  bif decide ((↑l0.length : Int) < (↑l1.length : Int)) then some (Res.ret false [3] [Dat.int Go.IntKind.i64 (-1)] [])
  else bif decide ((↑l0.length : Int) > (↑l1.length : Int)) then some (Res.ret false [3] [Dat.int Go.IntKind.i64 1] []) else some (Res.ret false [3] [Dat.int Go.IntKind.i64 0] [])) = some r) :
  SS (Key.pt 41 [] 26 { tmps := [(0, AV.d (Dat.lst 119 l0)), (1, AV.d (Dat.lst 119 l1)), (5, AV.d (Dat.int Go.IntKind.i64 n2))], boxes := [] }) = some r := ssOf (by kernel_rfl) h

theorem c222 (s0 : List UInt8) {r : Res} (h :
  (bif decide ((↑s0.length : Int) ≤ 100) then
  bindR Out none false [4] [] (fun v => some (Res.panic v)) (fun rs xs => some (Res.ret false [4] [Dat.bool !(rs.getD 0 Dat.nilP).b] [])) (SS (Key.call 271 [AV.d (Dat.str s0), AV.d (Dat.fn 272 [])] []))
else some (Res.ret false [4] [Dat.bool false] [])) = some r) :
  SS (Key.call 222 [AV.d (Dat.str s0)] []) = some r := ssOf (by kernel_rfl) h

theorem p179_2056182 (x0 : Dat) (l1 : List (List Dat)) (n2 : Int) (n3 : Int) (n4 : Int) (n5 : Int) (n6 : Int) (s7 : List UInt8) (l8 : List (List Dat)) (l9 : List (List Dat)) (n10 : Int) {r : Res} (h :
  (bif decide (n3 < n2) then
  bif decide (0 ≤ n3) && decide (n3 < (↑l1.length : Int)) then
    bindR Out none false [4] [] (fun v => some (Res.panic v))
      (fun rs xs =>
        bif !(rs.getD 0 Dat.nilP).b then some (Res.ret false [4] [Dat.bool false] [[(Dat.int Go.IntKind.i64 n4, false)]])
        else
          bif decide (n3 > 0) then
            bif decide (0 ≤ Go.IntKind.i64.wrap (n3 - 1)) && decide (Go.IntKind.i64.wrap (n3 - 1) < (↑l9.length : Int)) then
              bif !Go.Op.bytesLess ((l9.getD (Go.IntKind.i64.wrap (n3 - 1)).toNat []).getD 0 Dat.nilP).s ((l1.getD n3.toNat []).getD 0 Dat.nilP).s then some (Res.ret false [4] [Dat.bool false] [[(Dat.int Go.IntKind.i64 n4, false)]])
              else
                SS
                  (Key.pt 179 [[AV.d x0]] 2056182
                    { tmps := [(3, AV.ptr 1003 0), (4, AV.ptr 1004 0), (5, AV.ptr 1005 0), (107, AV.d (Dat.lst 9 l1)), (108, AV.d (Dat.int Go.IntKind.i64 n2)), (109, AV.d (Dat.int Go.IntKind.i64 (Go.IntKind.i64.wrap (n3 + 1))))],
                      boxes :=
                        [(0, [AV.d (Dat.int Go.IntKind.i64 n4)]), (1003, [AV.d (Dat.int Go.IntKind.i64 n5), AV.d (Dat.int Go.IntKind.i64 n6), AV.d (Dat.str s7), AV.d (Dat.lst 32 l8), AV.d (Dat.lst 9 l9)]),
                          (1004, [AV.d (Dat.int Go.IntKind.i64 n10)]), (1005, [AV.ptr 0 0])] })
            else none
          else
            SS
              (Key.pt 179 [[AV.d x0]] 2056182
                { tmps := [(3, AV.ptr 1003 0), (4, AV.ptr 1004 0), (5, AV.ptr 1005 0), (107, AV.d (Dat.lst 9 l1)), (108, AV.d (Dat.int Go.IntKind.i64 n2)), (109, AV.d (Dat.int Go.IntKind.i64 (Go.IntKind.i64.wrap (n3 + 1))))],
                  boxes :=
                    [(0, [AV.d (Dat.int Go.IntKind.i64 n4)]), (1003, [AV.d (Dat.int Go.IntKind.i64 n5), AV.d (Dat.int Go.IntKind.i64 n6), AV.d (Dat.str s7), AV.d (Dat.lst 32 l8), AV.d (Dat.lst 9 l9)]),
                      (1004, [AV.d (Dat.int Go.IntKind.i64 n10)]), (1005, [AV.ptr 0 0])] }))
      (SS (Key.call 222 [AV.d (Dat.str ((l1.getD n3.toNat []).getD 0 Dat.nilP).s)] []))
  else none
else
  bif n6 == 0 then
    bif s7 == [] then
      bindR Out none false [4] [[AV.d (Dat.int Go.IntKind.i64 n10)], [AV.ptr 0 0], [AV.d (Dat.int Go.IntKind.i64 n4)]] (fun v => some (Res.panic v))
        (fun rs xs => some (Res.ret false [4] [Dat.bool !(rs.getD 0 Dat.nilP).b] [[(Dat.int Go.IntKind.i64 (xat xs 2 0).i, false)]]))
        (SS (Key.call 223 [AV.d (Dat.lst 32 l8), AV.fn 224 [AV.ptr 0 0, AV.ptr 1 0]] [[AV.d (Dat.int Go.IntKind.i64 n10)], [AV.ptr 2 0], [AV.d (Dat.int Go.IntKind.i64 n4)]]))
    else some (Res.ret false [4] [Dat.bool false] [[(Dat.int Go.IntKind.i64 n4, false)]])
  else some (Res.ret false [4] [Dat.bool false] [[(Dat.int Go.IntKind.i64 n4, false)]])) = some r) :
  SS (Key.pt 179 [[AV.d x0]] 2056182
  { tmps := [(3, AV.ptr 1003 0), (4, AV.ptr 1004 0), (5, AV.ptr 1005 0), (107, AV.d (Dat.lst 9 l1)), (108, AV.d (Dat.int Go.IntKind.i64 n2)), (109, AV.d (Dat.int Go.IntKind.i64 n3))],
    boxes :=
      [(0, [AV.d (Dat.int Go.IntKind.i64 n4)]), (1003, [AV.d (Dat.int Go.IntKind.i64 n5), AV.d (Dat.int Go.IntKind.i64 n6), AV.d (Dat.str s7), AV.d (Dat.lst 32 l8), AV.d (Dat.lst 9 l9)]), (1004, [AV.d (Dat.int Go.IntKind.i64 n10)]),
        (1005, [AV.ptr 0 0])] }) = some r := ssOf (by kernel_rfl) h

theorem c223 (l0 : List (List Dat)) (n1 : Int) (n2 : Int) {r : Res} (h :
  (bindR Out none false [3] [[AV.d (Dat.int Go.IntKind.i64 n1)], [AV.ptr 2 0], [AV.d (Dat.int Go.IntKind.i64 n2)]] (fun v => some (Res.panic v))
  (fun rs xs => some (Res.ret false [4] [Dat.bool (decide ((rs.getD 0 Dat.nilP).i ≥ 0))] [[(Dat.int Go.IntKind.i64 (xat xs 0 0).i, false)], [(Dat.nilP, false)], [(Dat.int Go.IntKind.i64 (xat xs 2 0).i, false)]]))
  (SS (Key.call 273 [AV.d (Dat.lst 32 l0), AV.fn 224 [AV.ptr 0 0, AV.ptr 1 0]] [[AV.d (Dat.int Go.IntKind.i64 n1)], [AV.ptr 2 0], [AV.d (Dat.int Go.IntKind.i64 n2)]]))) = some r) :
  SS (Key.call 223 [AV.d (Dat.lst 32 l0), AV.fn 224 [AV.ptr 0 0, AV.ptr 1 0]] [[AV.d (Dat.int Go.IntKind.i64 n1)], [AV.ptr 2 0], [AV.d (Dat.int Go.IntKind.i64 n2)]]) = some r := ssOf (by kernel_rfl) h

theorem p77_58 (n0 : Int) (l1 : List (List Dat)) (n2 : Int) (n3 : Int) {r : Res} (h :
  (bif decide (n3 < n2) then
  bif decide (0 ≤ n3) && decide (n3 < (↑l1.length : Int)) then
    bif ((l1.getD n3.toNat []).getD 0 Dat.nilP).i != n0 then some (Res.ret false [3] [Dat.int Go.IntKind.i64 ((l1.getD n3.toNat []).getD 0 Dat.nilP).i] [])
    else SS (Key.pt 77 [] 58 { tmps := [(3, AV.d (Dat.int Go.IntKind.i64 n0)), (6, AV.d (Dat.lst 3 l1)), (7, AV.d (Dat.int Go.IntKind.i64 n2)), (8, AV.d (Dat.int Go.IntKind.i64 (Go.IntKind.i64.wrap (n3 + 1))))], boxes := [] })
  else none
else some (Res.ret false [3] [Dat.int Go.IntKind.i64 n0] [])) = some r) :
  SS (Key.pt 77 [] 58 { tmps := [(3, AV.d (Dat.int Go.IntKind.i64 n0)), (6, AV.d (Dat.lst 3 l1)), (7, AV.d (Dat.int Go.IntKind.i64 n2)), (8, AV.d (Dat.int Go.IntKind.i64 n3))], boxes := [] }) = some r := ssOf (by kernel_rfl) h

theorem c132_1 (l0 : List (List Dat)) {r : Res} (h :
  (SS (Key.pt 132 [] 26 { tmps := [(0, AV.d (Dat.lst 119 l0)), (1, AV.d (Dat.fn 130 [])), (7, AV.d (Dat.int Go.IntKind.i64 (↑l0.length : Int))), (8, AV.d (Dat.int Go.IntKind.i64 0))], boxes := [] })) = some r) :
  SS (Key.call 132 [AV.d (Dat.lst 119 l0), AV.d (Dat.fn 130 [])] []) = some r := ssOf (by kernel_rfl) h

theorem p132_26 (l0 : List (List Dat)) (n1 : Int) (n2 : Int) {r : Res} (h :
  (bif decide (n2 < n1) then
  bif decide (0 ≤ n2) && decide (n2 < (↑l0.length : Int)) then
    bindR Out none false [4] [] (fun v => some (Res.panic v))
      (fun rs xs =>
        bif (rs.getD 0 Dat.nilP).b then some (Res.ret false [3] [Dat.int Go.IntKind.i64 n2] [])
        else SS (Key.pt 132 [] 26 { tmps := [(0, AV.d (Dat.lst 119 l0)), (1, AV.d (Dat.fn 73 [])), (7, AV.d (Dat.int Go.IntKind.i64 n1)), (8, AV.d (Dat.int Go.IntKind.i64 (Go.IntKind.i64.wrap (n2 + 1))))], boxes := [] }))
      (SS (Key.call 73 [AV.agg [AV.d (Dat.int Go.IntKind.i64 ((l0.getD n2.toNat []).getD 0 Dat.nilP).i), AV.d (Dat.str ((l0.getD n2.toNat []).getD 1 Dat.nilP).s)]] []))
  else none
else some (Res.ret false [3] [Dat.int Go.IntKind.i64 (-1)] [])) = some r) :
  SS (Key.pt 132 [] 26 { tmps := [(0, AV.d (Dat.lst 119 l0)), (1, AV.d (Dat.fn 73 [])), (7, AV.d (Dat.int Go.IntKind.i64 n1)), (8, AV.d (Dat.int Go.IntKind.i64 n2))], boxes := [] }) = some r := ssOf (by kernel_rfl) h

theorem c75 (n0 : Int) (s1 : List UInt8) (n2 : Int) (s3 : List UInt8) {r : Res} (h :
  (bif !decide (n0 < 0) == decide (n2 < 0) then
  bindR Out none false [3] [] (fun v => some (Res.panic v)) (fun rs xs => some (Res.ret false [3] [Dat.int Go.IntKind.i64 (rs.getD 0 Dat.nilP).i] []))
    (SS (Key.call 76 [AV.d (Dat.int Go.IntKind.i64 n2), AV.d (Dat.int Go.IntKind.i64 n0)] []))
else
  bindR Out none false [3] [] (fun v => some (Res.panic (4, v).snd))
    (fun rs xs =>
      bindR Out none false [3] [] (fun v => some (Res.panic (9, v).snd))
        (fun rs_1 xs =>
          bindR Out none false [3] [] (fun v => some (Res.panic (11, v).snd)) (fun rs xs => some (Res.ret false [3] [Dat.int Go.IntKind.i64 (rs.getD 0 Dat.nilP).i] []))
            (SS (Key.call 77 [AV.d (Dat.lst 3 [[Dat.int Go.IntKind.i64 (rs.getD 0 Dat.nilP).i], [Dat.int Go.IntKind.i64 (rs_1.getD 0 Dat.nilP).i]])] [])))
        (SS (Key.call 78 [AV.d (Dat.str s1), AV.d (Dat.str s3)] [])))
    (SS (Key.call 76 [AV.d (Dat.int Go.IntKind.i64 n0), AV.d (Dat.int Go.IntKind.i64 n2)] []))) = some r) :
  SS (Key.call 75 [AV.agg [AV.d (Dat.int Go.IntKind.i64 n0), AV.d (Dat.str s1)], AV.agg [AV.d (Dat.int Go.IntKind.i64 n2), AV.d (Dat.str s3)]] []) = some r := ssOf (by kernel_rfl) h

theorem p114_58 (s0 : List UInt8) (n1 : Int) {r : Res} (h :
  (bif decide (n1 < (↑s0.length : Int)) then
  bif decide (0 ≤ n1) && decide (n1 < (↑s0.length : Int)) then
    bif decide ((↑(s0.getD n1.toNat 0).toNat : Int) < 97) then
      bif decide (0 ≤ n1) && decide (n1 < (↑s0.length : Int)) then
        bif decide ((↑(s0.getD n1.toNat 0).toNat : Int) < 48) then
          bif decide (0 ≤ n1) && decide (n1 < (↑s0.length : Int)) then
            bif (↑(s0.getD n1.toNat 0).toNat : Int) != 95 then some (Res.ret false [4] [Dat.bool false] [])
            else SS (Key.pt 114 [] 58 { tmps := [(0, AV.d (Dat.str s0)), (3, AV.d (Dat.int Go.IntKind.i64 (Go.IntKind.i64.wrap (n1 + 1))))], boxes := [] })
          else none
        else
          bif decide (0 ≤ n1) && decide (n1 < (↑s0.length : Int)) then
            bif decide ((↑(s0.getD n1.toNat 0).toNat : Int) > 57) then
              bif decide (0 ≤ n1) && decide (n1 < (↑s0.length : Int)) then
                bif (↑(s0.getD n1.toNat 0).toNat : Int) != 95 then some (Res.ret false [4] [Dat.bool false] [])
                else SS (Key.pt 114 [] 58 { tmps := [(0, AV.d (Dat.str s0)), (3, AV.d (Dat.int Go.IntKind.i64 (Go.IntKind.i64.wrap (n1 + 1))))], boxes := [] })
              else none
            else SS (Key.pt 114 [] 58 { tmps := [(0, AV.d (Dat.str s0)), (3, AV.d (Dat.int Go.IntKind.i64 (Go.IntKind.i64.wrap (n1 + 1))))], boxes := [] })
          else none
      else none
    else
      bif decide (0 ≤ n1) && decide (n1 < (↑s0.length : Int)) then
        bif decide ((↑(s0.getD n1.toNat 0).toNat : Int) > 122) then
          bif decide (0 ≤ n1) && decide (n1 < (↑s0.length : Int)) then
            bif decide ((↑(s0.getD n1.toNat 0).toNat : Int) < 48) then
              bif decide (0 ≤ n1) && decide (n1 < (↑s0.length : Int)) then
                bif (↑(s0.getD n1.toNat 0).toNat : Int) != 95 then some (Res.ret false [4] [Dat.bool false] [])
                else SS (Key.pt 114 [] 58 { tmps := [(0, AV.d (Dat.str s0)), (3, AV.d (Dat.int Go.IntKind.i64 (Go.IntKind.i64.wrap (n1 + 1))))], boxes := [] })
              else none
            else
              bif decide (0 ≤ n1) && decide (n1 < (↑s0.length : Int)) then
                bif decide ((↑(s0.getD n1.toNat 0).toNat : Int) > 57) then
                  bif decide (0 ≤ n1) && decide (n1 < (↑s0.length : Int)) then
                    bif (↑(s0.getD n1.toNat 0).toNat : Int) != 95 then some (Res.ret false [4] [Dat.bool false] [])
                    else SS (Key.pt 114 [] 58 { tmps := [(0, AV.d (Dat.str s0)), (3, AV.d (Dat.int Go.IntKind.i64 (Go.IntKind.i64.wrap (n1 + 1))))], boxes := [] })
                  else none
                else SS (Key.pt 114 [] 58 { tmps := [(0, AV.d (Dat.str s0)), (3, AV.d (Dat.int Go.IntKind.i64 (Go.IntKind.i64.wrap (n1 + 1))))], boxes := [] })
              else none
          else none
        else SS (Key.pt 114 [] 58 { tmps := [(0, AV.d (Dat.str s0)), (3, AV.d (Dat.int Go.IntKind.i64 (Go.IntKind.i64.wrap (n1 + 1))))], boxes := [] })
      else none
  else none
else some (Res.ret false [4] [Dat.bool true] [])) = some r) :
  SS (Key.pt 114 [] 58 { tmps := [(0, AV.d (Dat.str s0)), (3, AV.d (Dat.int Go.IntKind.i64 n1))], boxes := [] }) = some r := ssOf (by kernel_rfl) h

theorem p135_26 (l0 : List (List Dat)) (s1 : List UInt8) (n2 : Int) {r : Res} (h :
  (bif decide (n2 < (↑l0.length : Int)) then
  bif decide (0 ≤ n2) && decide (n2 < (↑l0.length : Int)) then
    bif ((l0.getD n2.toNat []).getD 0 Dat.nilP).s == s1 then some (Res.ret false [4] [Dat.bool true] [])
    else SS (Key.pt 135 [] 26 { tmps := [(0, AV.d (Dat.lst 9 l0)), (1, AV.d (Dat.str s1)), (5, AV.d (Dat.int Go.IntKind.i64 (Go.IntKind.i64.wrap (n2 + 1))))], boxes := [] })
  else none
else some (Res.ret false [4] [Dat.bool false] [])) = some r) :
  SS (Key.pt 135 [] 26 { tmps := [(0, AV.d (Dat.lst 9 l0)), (1, AV.d (Dat.str s1)), (5, AV.d (Dat.int Go.IntKind.i64 n2))], boxes := [] }) = some r := ssOf (by kernel_rfl) h

theorem p136_58 (l0 : List (List Dat)) (l1 : List (List Dat)) (n2 : Int) {r : Res} (h :
  (bif decide (n2 < (↑l0.length : Int)) then
  bif decide (0 ≤ n2) && decide (n2 < (↑l0.length : Int)) then
    bif decide (0 ≤ n2) && decide (n2 < (↑l1.length : Int)) then
      bindR Out none false [4] [] (fun v => some (Res.panic (8, v).snd))
        (fun rs xs =>
          bif !(rs.getD 0 Dat.nilP).b then some (Res.ret false [4] [Dat.bool false] [])
          else SS (Key.pt 136 [] 58 { tmps := [(0, AV.d (Dat.lst 32 l0)), (1, AV.d (Dat.lst 32 l1)), (5, AV.d (Dat.int Go.IntKind.i64 (Go.IntKind.i64.wrap (n2 + 1))))], boxes := [] }))
        (SS
          (Key.call 80
            [AV.agg
                [AV.d (Dat.int Go.IntKind.i64 ((l0.getD n2.toNat []).getD 0 Dat.nilP).i), AV.d (Dat.int Go.IntKind.i64 ((l0.getD n2.toNat []).getD 1 Dat.nilP).i), AV.d (Dat.str ((l0.getD n2.toNat []).getD 2 Dat.nilP).s),
                  AV.d (Dat.lst 32 ((l0.getD n2.toNat []).getD 3 Dat.nilP).l), AV.d (Dat.lst 9 ((l0.getD n2.toNat []).getD 4 Dat.nilP).l)],
              AV.agg
                [AV.d (Dat.int Go.IntKind.i64 ((l1.getD n2.toNat []).getD 0 Dat.nilP).i), AV.d (Dat.int Go.IntKind.i64 ((l1.getD n2.toNat []).getD 1 Dat.nilP).i), AV.d (Dat.str ((l1.getD n2.toNat []).getD 2 Dat.nilP).s),
                  AV.d (Dat.lst 32 ((l1.getD n2.toNat []).getD 3 Dat.nilP).l), AV.d (Dat.lst 9 ((l1.getD n2.toNat []).getD 4 Dat.nilP).l)]]
            []))
    else none
  else none
else some (Res.ret false [4] [Dat.bool true] [])) = some r) :
  SS (Key.pt 136 [] 58 { tmps := [(0, AV.d (Dat.lst 32 l0)), (1, AV.d (Dat.lst 32 l1)), (5, AV.d (Dat.int Go.IntKind.i64 n2))], boxes := [] }) = some r := ssOf (by kernel_rfl) h

theorem c209 (n0 : Int) (n1 : Int) (s2 : List UInt8) (l3 : List (List Dat)) (l4 : List (List Dat)) (b5 : Bool) (b6 : Bool) (b7 : Bool) (b8 : Bool) {r : Res} (h :
  (bif b5 then
  bif b6 then
    bif b7 then bif b8 then some (Res.ret false [4] [Dat.bool true] []) else some (Res.ret false [4] [Dat.bool ((↑l4.length : Int) == 0)] [])
    else bif (↑l3.length : Int) == 0 then bif b8 then some (Res.ret false [4] [Dat.bool true] []) else some (Res.ret false [4] [Dat.bool ((↑l4.length : Int) == 0)] []) else some (Res.ret false [4] [Dat.bool false] [])
  else
    bif s2 == [] then
      bif b7 then bif b8 then some (Res.ret false [4] [Dat.bool true] []) else some (Res.ret false [4] [Dat.bool ((↑l4.length : Int) == 0)] [])
      else bif (↑l3.length : Int) == 0 then bif b8 then some (Res.ret false [4] [Dat.bool true] []) else some (Res.ret false [4] [Dat.bool ((↑l4.length : Int) == 0)] []) else some (Res.ret false [4] [Dat.bool false] [])
    else some (Res.ret false [4] [Dat.bool false] [])
else
  bif n1 == 0 then
    bif b6 then
      bif b7 then bif b8 then some (Res.ret false [4] [Dat.bool true] []) else some (Res.ret false [4] [Dat.bool ((↑l4.length : Int) == 0)] [])
      else bif (↑l3.length : Int) == 0 then bif b8 then some (Res.ret false [4] [Dat.bool true] []) else some (Res.ret false [4] [Dat.bool ((↑l4.length : Int) == 0)] []) else some (Res.ret false [4] [Dat.bool false] [])
    else
      bif s2 == [] then
        bif b7 then bif b8 then some (Res.ret false [4] [Dat.bool true] []) else some (Res.ret false [4] [Dat.bool ((↑l4.length : Int) == 0)] [])
        else bif (↑l3.length : Int) == 0 then bif b8 then some (Res.ret false [4] [Dat.bool true] []) else some (Res.ret false [4] [Dat.bool ((↑l4.length : Int) == 0)] []) else some (Res.ret false [4] [Dat.bool false] [])
      else some (Res.ret false [4] [Dat.bool false] [])
  else some (Res.ret false [4] [Dat.bool false] [])) = some r) :
  SS (Key.call 209 [AV.agg [AV.d (Dat.int Go.IntKind.i64 n0), AV.d (Dat.int Go.IntKind.i64 n1), AV.d (Dat.str s2), AV.d (Dat.lst 32 l3), AV.d (Dat.lst 9 l4)], AV.d (Dat.bool b5), AV.d (Dat.bool b6), AV.d (Dat.bool b7), AV.d (Dat.bool b8)] []) = some r := ssOf (by kernel_rfl) h

theorem p158_506 (n0 : Int) (n1 : Int) (n2 : Int) (n3 : Int) (n4 : Int) (n5 : Int) (s6 : List UInt8) (l7 : List (List Dat)) (l8 : List (List Dat)) {r : Res} (h :
  (bif decide (n3 < (↑l7.length : Int)) then
  bif decide (0 ≤ n3) && decide (n3 < (↑l7.length : Int)) then
    bindR Out none false [3] [] (fun v => some (Res.panic v))
      (fun rs xs =>
        bif decide (Go.IntKind.i64.wrap (n2 + (rs.getD 0 Dat.nilP).i) > 60) then some (Res.ret false [3] [Dat.int Go.IntKind.i64 n1] [])
        else
          SS
            (Key.pt 158 [] 506
              {
                tmps :=
                  [(1, AV.d (Dat.int Go.IntKind.i64 n0)), (2, AV.ptr 1002 0), (5, AV.d (Dat.int Go.IntKind.i64 n1)), (7, AV.d (Dat.int Go.IntKind.i64 (Go.IntKind.i64.wrap (n2 + (rs.getD 0 Dat.nilP).i)))),
                    (8, AV.d (Dat.int Go.IntKind.i64 (Go.IntKind.i64.wrap (n3 + 1))))],
                boxes := [(1002, [AV.d (Dat.int Go.IntKind.i64 n4), AV.d (Dat.int Go.IntKind.i64 n5), AV.d (Dat.str s6), AV.d (Dat.lst 32 l7), AV.d (Dat.lst 9 l8)])] }))
      (SS
        (Key.call 158
          [AV.agg
              [AV.d (Dat.int Go.IntKind.i64 ((l7.getD n3.toNat []).getD 0 Dat.nilP).i), AV.d (Dat.int Go.IntKind.i64 ((l7.getD n3.toNat []).getD 1 Dat.nilP).i), AV.d (Dat.str ((l7.getD n3.toNat []).getD 2 Dat.nilP).s),
                AV.d (Dat.lst 32 ((l7.getD n3.toNat []).getD 3 Dat.nilP).l), AV.d (Dat.lst 9 ((l7.getD n3.toNat []).getD 4 Dat.nilP).l)],
            AV.d (Dat.int Go.IntKind.i64 (Go.IntKind.i64.wrap (n0 - 1)))]
          []))
  else none
else some (Res.ret false [3] [Dat.int Go.IntKind.i64 n2] [])) = some r) :
  SS (Key.pt 158 [] 506
  { tmps := [(1, AV.d (Dat.int Go.IntKind.i64 n0)), (2, AV.ptr 1002 0), (5, AV.d (Dat.int Go.IntKind.i64 n1)), (7, AV.d (Dat.int Go.IntKind.i64 n2)), (8, AV.d (Dat.int Go.IntKind.i64 n3))],
    boxes := [(1002, [AV.d (Dat.int Go.IntKind.i64 n4), AV.d (Dat.int Go.IntKind.i64 n5), AV.d (Dat.str s6), AV.d (Dat.lst 32 l7), AV.d (Dat.lst 9 l8)])] }) = some r := ssOf (by kernel_rfl) h

theorem c137 (s0 : List UInt8) {r : Res} (h :
  (bif decide ((↑s0.length : Int) > 100) then some (Res.ret false [4] [Dat.bool false] []) else SS (Key.pt 137 [] 58 { tmps := [(0, AV.d (Dat.str s0)), (3, AV.d (Dat.int Go.IntKind.i64 0))], boxes := [] })) = some r) :
  SS (Key.call 137 [AV.d (Dat.str s0)] []) = some r := ssOf (by kernel_rfl) h

theorem p158_4030454 (n0 : Int) (n1 : Int) (n2 : Int) (n3 : Int) (n4 : Int) (s5 : List UInt8) (l6 : List (List Dat)) (l7 : List (List Dat)) {r : Res} (h :
  (bif decide (n2 < (↑l7.length : Int)) then
  bif decide (0 ≤ n2) && decide (n2 < (↑l7.length : Int)) then
    bindR Out none false [4] [] (fun v => some (Res.panic (5, v).snd))
      (fun rs xs =>
        bif !(rs.getD 0 Dat.nilP).b then bif !(rs.getD 0 Dat.nilP).b then some (Res.ret false [3] [Dat.int Go.IntKind.i64 n1] []) else none
        else
          bif decide (n2 > 0) then
            bif decide (0 ≤ Go.IntKind.i64.wrap (n2 - 1)) && decide (Go.IntKind.i64.wrap (n2 - 1) < (↑l7.length : Int)) then
              bif decide (0 ≤ n2) && decide (n2 < (↑l7.length : Int)) then
                bif decide (n2 > 0) then
                  bif !(rs.getD 0 Dat.nilP).b then some (Res.ret false [3] [Dat.int Go.IntKind.i64 n1] [])
                  else
                    bif !Go.Op.bytesLess ((l7.getD (Go.IntKind.i64.wrap (n2 - 1)).toNat []).getD 0 Dat.nilP).s ((l7.getD n2.toNat []).getD 0 Dat.nilP).s then some (Res.ret false [3] [Dat.int Go.IntKind.i64 n1] [])
                    else
                      SS
                        (Key.pt 158 [] 4030454
                          { tmps := [(1, AV.d (Dat.int Go.IntKind.i64 n0)), (2, AV.ptr 1002 0), (5, AV.d (Dat.int Go.IntKind.i64 n1)), (6, AV.d (Dat.int Go.IntKind.i64 (Go.IntKind.i64.wrap (n2 + 1))))],
                            boxes := [(1002, [AV.d (Dat.int Go.IntKind.i64 n3), AV.d (Dat.int Go.IntKind.i64 n4), AV.d (Dat.str s5), AV.d (Dat.lst 32 l6), AV.d (Dat.lst 9 l7)])] })
                else
                  bif !(rs.getD 0 Dat.nilP).b then some (Res.ret false [3] [Dat.int Go.IntKind.i64 n1] [])
                  else
                    SS
                      (Key.pt 158 [] 4030454
                        { tmps := [(1, AV.d (Dat.int Go.IntKind.i64 n0)), (2, AV.ptr 1002 0), (5, AV.d (Dat.int Go.IntKind.i64 n1)), (6, AV.d (Dat.int Go.IntKind.i64 (Go.IntKind.i64.wrap (n2 + 1))))],
                          boxes := [(1002, [AV.d (Dat.int Go.IntKind.i64 n3), AV.d (Dat.int Go.IntKind.i64 n4), AV.d (Dat.str s5), AV.d (Dat.lst 32 l6), AV.d (Dat.lst 9 l7)])] })
              else none
            else none
          else
            bif decide (n2 > 0) then bif !(rs.getD 0 Dat.nilP).b then some (Res.ret false [3] [Dat.int Go.IntKind.i64 n1] []) else none
            else
              bif !(rs.getD 0 Dat.nilP).b then some (Res.ret false [3] [Dat.int Go.IntKind.i64 n1] [])
              else
                SS
                  (Key.pt 158 [] 4030454
                    { tmps := [(1, AV.d (Dat.int Go.IntKind.i64 n0)), (2, AV.ptr 1002 0), (5, AV.d (Dat.int Go.IntKind.i64 n1)), (6, AV.d (Dat.int Go.IntKind.i64 (Go.IntKind.i64.wrap (n2 + 1))))],
                      boxes := [(1002, [AV.d (Dat.int Go.IntKind.i64 n3), AV.d (Dat.int Go.IntKind.i64 n4), AV.d (Dat.str s5), AV.d (Dat.lst 32 l6), AV.d (Dat.lst 9 l7)])] }))
      (SS (Key.call 137 [AV.d (Dat.str ((l7.getD n2.toNat []).getD 0 Dat.nilP).s)] []))
  else none
else
  SS
    (Key.pt 158 [] 506
      { tmps := [(1, AV.d (Dat.int Go.IntKind.i64 n0)), (2, AV.ptr 1002 0), (5, AV.d (Dat.int Go.IntKind.i64 n1)), (7, AV.d (Dat.int Go.IntKind.i64 1)), (8, AV.d (Dat.int Go.IntKind.i64 0))],
        boxes := [(1002, [AV.d (Dat.int Go.IntKind.i64 n3), AV.d (Dat.int Go.IntKind.i64 n4), AV.d (Dat.str s5), AV.d (Dat.lst 32 l6), AV.d (Dat.lst 9 l7)])] })) = some r) :
  SS (Key.pt 158 [] 4030454
  { tmps := [(1, AV.d (Dat.int Go.IntKind.i64 n0)), (2, AV.ptr 1002 0), (5, AV.d (Dat.int Go.IntKind.i64 n1)), (6, AV.d (Dat.int Go.IntKind.i64 n2))],
    boxes := [(1002, [AV.d (Dat.int Go.IntKind.i64 n3), AV.d (Dat.int Go.IntKind.i64 n4), AV.d (Dat.str s5), AV.d (Dat.lst 32 l6), AV.d (Dat.lst 9 l7)])] }) = some r := ssOf (by kernel_rfl) h

theorem c271 (s0 : List UInt8) {r : Res} (h :
  (bindR Out none false [3] [] (fun v => some (Res.panic v)) (fun rs xs => some (Res.ret false [4] [Dat.bool (decide ((rs.getD 0 Dat.nilP).i ≥ 0))] [])) (SS (Key.call 298 [AV.d (Dat.str s0), AV.d (Dat.fn 272 [])] []))) = some r) :
  SS (Key.call 271 [AV.d (Dat.str s0), AV.d (Dat.fn 272 [])] []) = some r := ssOf (by kernel_rfl) h

theorem c273 (l0 : List (List Dat)) (n1 : Int) (n2 : Int) {r : Res} (h :
  (SS
  (Key.pt 273 [[AV.d Dat.nilP], [AV.ptr 2 0], [AV.d Dat.nilP]] 26
    { tmps := [(0, AV.d (Dat.lst 32 l0)), (1, AV.fn 224 [AV.ptr 0 0, AV.ptr 1 0]), (7, AV.d (Dat.int Go.IntKind.i64 (↑l0.length : Int))), (8, AV.d (Dat.int Go.IntKind.i64 0))],
      boxes := [(0, [AV.d (Dat.int Go.IntKind.i64 n1)]), (1, [AV.ptr 2 0]), (2, [AV.d (Dat.int Go.IntKind.i64 n2)])] })) = some r) :
  SS (Key.call 273 [AV.d (Dat.lst 32 l0), AV.fn 224 [AV.ptr 0 0, AV.ptr 1 0]] [[AV.d (Dat.int Go.IntKind.i64 n1)], [AV.ptr 2 0], [AV.d (Dat.int Go.IntKind.i64 n2)]]) = some r := ssOf (by kernel_rfl) h

theorem p132_26_1 (l0 : List (List Dat)) (n1 : Int) (n2 : Int) {r : Res} (h :
  (bif decide (n2 < n1) then
  bif decide (0 ≤ n2) && decide (n2 < (↑l0.length : Int)) then
    bindR Out none false [4] [] (fun v => some (Res.panic v))
      (fun rs xs =>
        bif (rs.getD 0 Dat.nilP).b then some (Res.ret false [3] [Dat.int Go.IntKind.i64 n2] [])
        else SS (Key.pt 132 [] 26 { tmps := [(0, AV.d (Dat.lst 119 l0)), (1, AV.d (Dat.fn 130 [])), (7, AV.d (Dat.int Go.IntKind.i64 n1)), (8, AV.d (Dat.int Go.IntKind.i64 (Go.IntKind.i64.wrap (n2 + 1))))], boxes := [] }))
      (SS (Key.call 130 [AV.agg [AV.d (Dat.int Go.IntKind.i64 ((l0.getD n2.toNat []).getD 0 Dat.nilP).i), AV.d (Dat.str ((l0.getD n2.toNat []).getD 1 Dat.nilP).s)]] []))
  else none
else some (Res.ret false [3] [Dat.int Go.IntKind.i64 (-1)] [])) = some r) :
  SS (Key.pt 132 [] 26 { tmps := [(0, AV.d (Dat.lst 119 l0)), (1, AV.d (Dat.fn 130 [])), (7, AV.d (Dat.int Go.IntKind.i64 n1)), (8, AV.d (Dat.int Go.IntKind.i64 n2))], boxes := [] }) = some r := ssOf (by kernel_rfl) h

theorem c73 (n0 : Int) (s1 : List UInt8) {r : Res} (h :
  (some (Res.ret false [4] [Dat.bool (decide (n0 ≥ 0))] [])) = some r) :
  SS (Key.call 73 [AV.agg [AV.d (Dat.int Go.IntKind.i64 n0), AV.d (Dat.str s1)]] []) = some r := ssOf (by kernel_rfl) h

theorem p137_58 (s0 : List UInt8) (n1 : Int) {r : Res} (h :
  (bif decide (n1 < (↑s0.length : Int)) then
  bif decide (0 ≤ n1) && decide (n1 < (↑s0.length : Int)) then
    bif decide ((↑(s0.getD n1.toNat 0).toNat : Int) < 32) then some (Res.ret false [4] [Dat.bool false] [])
    else
      bif decide (0 ≤ n1) && decide (n1 < (↑s0.length : Int)) then
        bif decide ((↑(s0.getD n1.toNat 0).toNat : Int) > 126) then some (Res.ret false [4] [Dat.bool false] [])
        else SS (Key.pt 137 [] 58 { tmps := [(0, AV.d (Dat.str s0)), (3, AV.d (Dat.int Go.IntKind.i64 (Go.IntKind.i64.wrap (n1 + 1))))], boxes := [] })
      else none
  else none
else some (Res.ret false [4] [Dat.bool true] [])) = some r) :
  SS (Key.pt 137 [] 58 { tmps := [(0, AV.d (Dat.str s0)), (3, AV.d (Dat.int Go.IntKind.i64 n1))], boxes := [] }) = some r := ssOf (by kernel_rfl) h

theorem c298 (s0 : List UInt8) {r : Res} (h :
  (bindR Out none false [3] [] (fun v => some (Res.panic v)) (fun rs xs => some (Res.ret false [3] [Dat.int Go.IntKind.i64 (rs.getD 0 Dat.nilP).i] [])) (SS (Key.call 326 [AV.d (Dat.str s0), AV.d (Dat.fn 272 []), AV.d (Dat.bool true)] []))) = some r) :
  SS (Key.call 298 [AV.d (Dat.str s0), AV.d (Dat.fn 272 [])] []) = some r := ssOf (by kernel_rfl) h

theorem p273_26 (x0 : Dat) (x1 : Dat) (l2 : List (List Dat)) (n3 : Int) (n4 : Int) (n5 : Int) (n6 : Int) {r : Res} (h :
  (bif decide (n4 < n3) then
  bif decide (0 ≤ n4) && decide (n4 < (↑l2.length : Int)) then
    bindR Out none false [4] [[AV.d (Dat.int Go.IntKind.i64 n5)], [AV.ptr 2 0], [AV.d (Dat.int Go.IntKind.i64 n6)]] (fun v => some (Res.panic v))
      (fun rs xs =>
        bif (rs.getD 0 Dat.nilP).b then some (Res.ret false [3] [Dat.int Go.IntKind.i64 n4] [[(Dat.int Go.IntKind.i64 (xat xs 0 0).i, false)], [(Dat.nilP, false)], [(Dat.int Go.IntKind.i64 (xat xs 2 0).i, false)]])
        else
          SS
            (Key.pt 273 [[AV.d x0], [AV.ptr 2 0], [AV.d x1]] 26
              { tmps := [(0, AV.d (Dat.lst 32 l2)), (1, AV.fn 224 [AV.ptr 0 0, AV.ptr 1 0]), (7, AV.d (Dat.int Go.IntKind.i64 n3)), (8, AV.d (Dat.int Go.IntKind.i64 (Go.IntKind.i64.wrap (n4 + 1))))],
                boxes := [(0, [AV.d (Dat.int Go.IntKind.i64 (xat xs 0 0).i)]), (1, [AV.ptr 2 0]), (2, [AV.d (Dat.int Go.IntKind.i64 (xat xs 2 0).i)])] }))
      (SS
        (Key.call 224
          [AV.agg
              [AV.d (Dat.int Go.IntKind.i64 ((l2.getD n4.toNat []).getD 0 Dat.nilP).i), AV.d (Dat.int Go.IntKind.i64 ((l2.getD n4.toNat []).getD 1 Dat.nilP).i), AV.d (Dat.str ((l2.getD n4.toNat []).getD 2 Dat.nilP).s),
                AV.d (Dat.lst 32 ((l2.getD n4.toNat []).getD 3 Dat.nilP).l), AV.d (Dat.lst 9 ((l2.getD n4.toNat []).getD 4 Dat.nilP).l)],
            AV.ptr 0 0, AV.ptr 1 0]
          [[AV.d (Dat.int Go.IntKind.i64 n5)], [AV.ptr 2 0], [AV.d (Dat.int Go.IntKind.i64 n6)]]))
  else none
else some (Res.ret false [3] [Dat.int Go.IntKind.i64 (-1)] [[(Dat.int Go.IntKind.i64 n5, false)], [(Dat.nilP, false)], [(Dat.int Go.IntKind.i64 n6, false)]])) = some r) :
  SS (Key.pt 273 [[AV.d x0], [AV.ptr 2 0], [AV.d x1]] 26
  { tmps := [(0, AV.d (Dat.lst 32 l2)), (1, AV.fn 224 [AV.ptr 0 0, AV.ptr 1 0]), (7, AV.d (Dat.int Go.IntKind.i64 n3)), (8, AV.d (Dat.int Go.IntKind.i64 n4))],
    boxes := [(0, [AV.d (Dat.int Go.IntKind.i64 n5)]), (1, [AV.ptr 2 0]), (2, [AV.d (Dat.int Go.IntKind.i64 n6)])] }) = some r := ssOf (by kernel_rfl) h

theorem c130 (n0 : Int) (s1 : List UInt8) {r : Res} (h :
  (bindR Out none false [4] [] (fun v => some (Res.panic v)) (fun rs xs => some (Res.ret false [4] [Dat.bool !(rs.getD 0 Dat.nilP).b] [])) (SS (Key.call 131 [AV.agg [AV.d (Dat.int Go.IntKind.i64 n0), AV.d (Dat.str s1)]] []))) = some r) :
  SS (Key.call 130 [AV.agg [AV.d (Dat.int Go.IntKind.i64 n0), AV.d (Dat.str s1)]] []) = some r := ssOf (by kernel_rfl) h

theorem c326 (s0 : List UInt8) (b1 : Bool) {r : Res} (h :
  (SS (Key.pt 326 [] 26 { tmps := [(1, AV.d (Dat.fn 272 [])), (2, AV.d (Dat.bool b1)), (10, AV.own 1000000 [[Dat.str s0, Dat.int Go.IntKind.i64 0]])], boxes := [] })) = some r) :
  SS (Key.call 326 [AV.d (Dat.str s0), AV.d (Dat.fn 272 []), AV.d (Dat.bool b1)] []) = some r := ssOf (by kernel_rfl) h

theorem c224 (n0 : Int) (n1 : Int) (s2 : List UInt8) (l3 : List (List Dat)) (l4 : List (List Dat)) (n5 : Int) (n6 : Int) {r : Res} (h :
  (bindR Out none false [4] [[AV.d (Dat.int Go.IntKind.i64 n6)]] (fun v => some (Res.panic v))
  (fun rs xs => some (Res.ret false [4] [Dat.bool !(rs.getD 0 Dat.nilP).b] [[(Dat.int Go.IntKind.i64 n5, false)], [(Dat.nilP, false)], [(Dat.int Go.IntKind.i64 (xat xs 0 0).i, false)]]))
  (SS
    (Key.call 179 [AV.agg [AV.d (Dat.int Go.IntKind.i64 n0), AV.d (Dat.int Go.IntKind.i64 n1), AV.d (Dat.str s2), AV.d (Dat.lst 32 l3), AV.d (Dat.lst 9 l4)], AV.d (Dat.int Go.IntKind.i64 (Go.IntKind.i64.wrap (n5 - 1))), AV.ptr 0 0]
      [[AV.d (Dat.int Go.IntKind.i64 n6)]]))) = some r) :
  SS (Key.call 224 [AV.agg [AV.d (Dat.int Go.IntKind.i64 n0), AV.d (Dat.int Go.IntKind.i64 n1), AV.d (Dat.str s2), AV.d (Dat.lst 32 l3), AV.d (Dat.lst 9 l4)], AV.ptr 0 0, AV.ptr 1 0]
  [[AV.d (Dat.int Go.IntKind.i64 n5)], [AV.ptr 2 0], [AV.d (Dat.int Go.IntKind.i64 n6)]]) = some r := ssOf (by kernel_rfl) h

theorem c131 (n0 : Int) (s1 : List UInt8) {r : Res} (h :
  (bif decide (n0 ≥ 0) then bif decide (n0 ≤ 99) then some (Res.ret false [4] [Dat.bool (s1 == [])] []) else some (Res.ret false [4] [Dat.bool false] [])
else
  bif n0 == -1 then
    bindR Out none false [32] [] (fun v => some (Res.panic v))
      (fun rs xs =>
        bindR Out none false [4] [] (fun v => some (Res.panic v)) (fun rs xs => some (Res.ret false [4] [Dat.bool (rs.getD 0 Dat.nilP).b] []))
          (SS
            (Key.call 129
              [AV.agg
                  [AV.d (Dat.int Go.IntKind.i64 (rs.getD 0 Dat.nilP).i), AV.d (Dat.int Go.IntKind.i64 (rs.getD 1 Dat.nilP).i), AV.d (Dat.str (rs.getD 2 Dat.nilP).s), AV.d (Dat.lst 32 (rs.getD 3 Dat.nilP).l),
                    AV.d (Dat.lst 9 (rs.getD 4 Dat.nilP).l)]]
              [])))
      (SS (Key.call 180 [AV.d (Dat.str s1)] []))
  else some (Res.ret false [4] [Dat.bool false] [])) = some r) :
  SS (Key.call 131 [AV.agg [AV.d (Dat.int Go.IntKind.i64 n0), AV.d (Dat.str s1)]] []) = some r := ssOf (by kernel_rfl) h

theorem p326_26 (b0 : Bool) (s1 : List UInt8) (n2 : Int) {r : Res} (h :
  (bif decide (n2 < (↑s1.length : Int)) then
  bindR Out none false [4] [] (fun v => some (Res.panic v))
    (fun rs xs =>
      bif (rs.getD 0 Dat.nilP).b == b0 then some (Res.ret false [3] [Dat.int Go.IntKind.i64 n2] [])
      else SS (Key.pt 326 [] 26 { tmps := [(1, AV.d (Dat.fn 272 [])), (2, AV.d (Dat.bool b0)), (10, AV.own 1000000 [[Dat.str s1, Dat.int Go.IntKind.i64 (n2 + (↑(decW s1 n2.toNat) : Int))]])], boxes := [] }))
    (SS (Key.call 272 [AV.d (Dat.int Go.IntKind.i32 (decR s1 n2.toNat))] []))
else some (Res.ret false [3] [Dat.int Go.IntKind.i64 (-1)] [])) = some r) :
  SS (Key.pt 326 [] 26 { tmps := [(1, AV.d (Dat.fn 272 [])), (2, AV.d (Dat.bool b0)), (10, AV.own 1000000 [[Dat.str s1, Dat.int Go.IntKind.i64 n2]])], boxes := [] }) = some r := ssOf (by kernel_rfl) h

theorem c180 (s0 : List UInt8) {r : Res} (h :
  (some (Res.ret false [32] [Dat.int Go.IntKind.i64 3, Dat.int Go.IntKind.i64 0, Dat.str s0, Dat.lst 32 [], Dat.lst 9 []] [])) = some r) :
  SS (Key.call 180 [AV.d (Dat.str s0)] []) = some r := ssOf (by kernel_rfl) h

theorem c272 (n0 : Int) {r : Res} (h :
  (bif decide (n0 < 32) then some (Res.ret false [4] [Dat.bool true] []) else some (Res.ret false [4] [Dat.bool (decide (n0 > 126))] [])) = some r) :
  SS (Key.call 272 [AV.d (Dat.int Go.IntKind.i32 n0)] []) = some r := ssOf (by kernel_rfl) h

end Go.Ab
end
