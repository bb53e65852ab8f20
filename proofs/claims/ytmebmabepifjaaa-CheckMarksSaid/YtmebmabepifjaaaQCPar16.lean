/- Contracts of ref16: the mark of bytes. -/
import Derived.Test.YtmebmabepifjaaaQCRef16
set_option maxRecDepth 100000
namespace Go.Sal
open Go.Vse Go.Sal.Nm

def x_bytes (S : SState) (i : Nat) : Bytes := match S.get i with
  | .sv (.dv (.imm t xs)) => if h : t = .u8 then castL h xs else []
  | _ => []

def an_rParse (b : Bytes) (site : Int) : Nat → SState → Option LoopAnn
  | 12, S => some { X := Nat, slots := fun i => [(11, .sv (.dv (.i64 i)))], objs := fun i => [(x_labAt S 4, .cells (ofRuns (enc T_Mark (site, x_int S 64, x_int S 66, laidV (b.drop (2 + x_int S 6 + x_int S 9).toNat) i, laidV (b.drop (34 + x_int S 6 + x_int S 9).toNat) i))) false)], inv := fun i => i ≤ 32, meas := fun i => 32 - i }
  | _, _ => none

theorem ref16_Parse_vc (b : Bytes) (hb : b.length ≤ LIM) :
    (decide (ofN (List.length b) < 2) = true →
        (ofN 0 = (parseM b).1.1 ∧ ofN 0 = (parseM b).1.2.1 ∧ ofN 0 = (parseM b).1.2.2.1 ∧ List.replicate 32 0#8 = (parseM b).1.2.2.2.1 ∧ List.replicate 32 0#8 = (parseM b).1.2.2.2.2) ∧
          160 = (parseM b).2) ∧
      (decide (ofN (List.length b) < 2) = false →
        within 1 (List.length b) ∧
          (ofN 0 ≤ 2 ∧ 2 ≤ ofN (List.length b)) ∧
            ((ofN (readN (List.drop (Int.toNat 2) (List.take (List.length b) b)) 0 0).2.2 != 0 ||
                    decide (1073741824#64 < BitVec.ofNat 64 (readN (List.drop (Int.toNat 2) (List.take (List.length b) b)) 0 0).1)) =
                  true →
                (ofN 0 = (parseM b).1.1 ∧ ofN 0 = (parseM b).1.2.1 ∧ ofN 0 = (parseM b).1.2.2.1 ∧ List.replicate 32 0#8 = (parseM b).1.2.2.2.1 ∧ List.replicate 32 0#8 = (parseM b).1.2.2.2.2) ∧
                  160 = (parseM b).2) ∧
              ((ofN (readN (List.drop (Int.toNat 2) (List.take (List.length b) b)) 0 0).2.2 != 0 ||
                    decide (1073741824#64 < BitVec.ofNat 64 (readN (List.drop (Int.toNat 2) (List.take (List.length b) b)) 0 0).1)) =
                  false →
                inI64 (2 + ofN (readN (List.drop (Int.toNat 2) (List.take (List.length b) b)) 0 0).2.1) ∧
                  (0 ≤ 2 + ofN (readN (List.drop (Int.toNat 2) (List.take (List.length b) b)) 0 0).2.1 ∧
                      2 + ofN (readN (List.drop (Int.toNat 2) (List.take (List.length b) b)) 0 0).2.1 ≤ ofN (List.length b)) ∧
                    ((ofN (readN (List.drop (Int.toNat (2 + ofN (readN (List.drop (Int.toNat 2) (List.take (List.length b) b)) 0 0).2.1)) (List.take (List.length b) b)) 0 0).2.2 != 0 ||
                            decide
                              (1073741824#64 <
                                BitVec.ofNat 64 (readN (List.drop (Int.toNat (2 + ofN (readN (List.drop (Int.toNat 2) (List.take (List.length b) b)) 0 0).2.1)) (List.take (List.length b) b)) 0 0).1)) =
                          false →
                        inI64 (2 + ofN (readN (List.drop (Int.toNat 2) (List.take (List.length b) b)) 0 0).2.1)) ∧
                      ((ofN (readN (List.drop (Int.toNat (2 + ofN (readN (List.drop (Int.toNat 2) (List.take (List.length b) b)) 0 0).2.1)) (List.take (List.length b) b)) 0 0).2.2 != 0 ||
                              decide
                                (1073741824#64 <
                                  BitVec.ofNat 64 (readN (List.drop (Int.toNat (2 + ofN (readN (List.drop (Int.toNat 2) (List.take (List.length b) b)) 0 0).2.1)) (List.take (List.length b) b)) 0 0).1)) =
                            false →
                          inI64
                            (2 + ofN (readN (List.drop (Int.toNat 2) (List.take (List.length b) b)) 0 0).2.1 +
                              ofN (readN (List.drop (Int.toNat (2 + ofN (readN (List.drop (Int.toNat 2) (List.take (List.length b) b)) 0 0).2.1)) (List.take (List.length b) b)) 0 0).2.1)) ∧
                        ((ofN (readN (List.drop (Int.toNat (2 + ofN (readN (List.drop (Int.toNat 2) (List.take (List.length b) b)) 0 0).2.1)) (List.take (List.length b) b)) 0 0).2.2 != 0 ||
                                decide
                                  (1073741824#64 <
                                    BitVec.ofNat 64
                                      (readN (List.drop (Int.toNat (2 + ofN (readN (List.drop (Int.toNat 2) (List.take (List.length b) b)) 0 0).2.1)) (List.take (List.length b) b)) 0 0).1)) =
                              false →
                            inI64
                              (2 + ofN (readN (List.drop (Int.toNat 2) (List.take (List.length b) b)) 0 0).2.1 +
                                  ofN (readN (List.drop (Int.toNat (2 + ofN (readN (List.drop (Int.toNat 2) (List.take (List.length b) b)) 0 0).2.1)) (List.take (List.length b) b)) 0 0).2.1 +
                                64)) ∧
                          ((ofN (readN (List.drop (Int.toNat (2 + ofN (readN (List.drop (Int.toNat 2) (List.take (List.length b) b)) 0 0).2.1)) (List.take (List.length b) b)) 0 0).2.2 != 0 ||
                                    decide
                                      (1073741824#64 <
                                        BitVec.ofNat 64
                                          (readN (List.drop (Int.toNat (2 + ofN (readN (List.drop (Int.toNat 2) (List.take (List.length b) b)) 0 0).2.1)) (List.take (List.length b) b)) 0 0).1) ||
                                  ofN (List.length b) !=
                                    2 + ofN (readN (List.drop (Int.toNat 2) (List.take (List.length b) b)) 0 0).2.1 +
                                        ofN (readN (List.drop (Int.toNat (2 + ofN (readN (List.drop (Int.toNat 2) (List.take (List.length b) b)) 0 0).2.1)) (List.take (List.length b) b)) 0 0).2.1 +
                                      64) =
                                true →
                              (ofN 0 = (parseM b).1.1 ∧
                                  ofN 0 = (parseM b).1.2.1 ∧ ofN 0 = (parseM b).1.2.2.1 ∧ List.replicate 32 0#8 = (parseM b).1.2.2.2.1 ∧ List.replicate 32 0#8 = (parseM b).1.2.2.2.2) ∧
                                160 = (parseM b).2) ∧
                            ((ofN (readN (List.drop (Int.toNat (2 + ofN (readN (List.drop (Int.toNat 2) (List.take (List.length b) b)) 0 0).2.1)) (List.take (List.length b) b)) 0 0).2.2 != 0 ||
                                    decide
                                      (1073741824#64 <
                                        BitVec.ofNat 64
                                          (readN (List.drop (Int.toNat (2 + ofN (readN (List.drop (Int.toNat 2) (List.take (List.length b) b)) 0 0).2.1)) (List.take (List.length b) b)) 0 0).1) ||
                                  ofN (List.length b) !=
                                    2 + ofN (readN (List.drop (Int.toNat 2) (List.take (List.length b) b)) 0 0).2.1 +
                                        ofN (readN (List.drop (Int.toNat (2 + ofN (readN (List.drop (Int.toNat 2) (List.take (List.length b) b)) 0 0).2.1)) (List.take (List.length b) b)) 0 0).2.1 +
                                      64) =
                                false →
                              (∃ (x : Nat),
                                  x ≤ 32 ∧
                                    0 = ofN x ∧
                                      ofN (BitVec.toNat (List.getD b (Int.toNat 1) 0#8)) = ofN (BitVec.toNat (List.getD b 1 0#8)) ∧
                                        BitVec.toInt (BitVec.setWidth 64 (BitVec.ofNat 64 (readN (List.drop (Int.toNat 2) (List.take (List.length b) b)) 0 0).1)) =
                                            BitVec.toInt (BitVec.setWidth 64 (BitVec.ofNat 64 (readN (List.drop (Int.toNat 2) (List.take (List.length b) b)) 0 0).1)) ∧
                                          BitVec.toInt
                                                (BitVec.setWidth 64
                                                  (BitVec.ofNat 64
                                                    (readN (List.drop (Int.toNat (2 + ofN (readN (List.drop (Int.toNat 2) (List.take (List.length b) b)) 0 0).2.1)) (List.take (List.length b) b)) 0
                                                        0).1)) =
                                              BitVec.toInt
                                                (BitVec.setWidth 64
                                                  (BitVec.ofNat 64
                                                    (readN (List.drop (Int.toNat (2 + ofN (readN (List.drop (Int.toNat 2) (List.take (List.length b) b)) 0 0).2.1)) (List.take (List.length b) b)) 0
                                                        0).1)) ∧
                                            List.replicate 32 0#8 =
                                                laidV
                                                  (List.drop
                                                    (Int.toNat
                                                      (2 + ofN (readN (List.drop (Int.toNat 2) (List.take (List.length b) b)) 0 0).2.1 +
                                                        ofN
                                                          (readN (List.drop (Int.toNat (2 + ofN (readN (List.drop (Int.toNat 2) (List.take (List.length b) b)) 0 0).2.1)) (List.take (List.length b) b)) 0
                                                                0).2.1))
                                                    b)
                                                  x ∧
                                              List.replicate 32 0#8 =
                                                laidV
                                                  (List.drop
                                                    (Int.toNat
                                                      (34 + ofN (readN (List.drop (Int.toNat 2) (List.take (List.length b) b)) 0 0).2.1 +
                                                        ofN
                                                          (readN (List.drop (Int.toNat (2 + ofN (readN (List.drop (Int.toNat 2) (List.take (List.length b) b)) 0 0).2.1)) (List.take (List.length b) b)) 0
                                                                0).2.1))
                                                    b)
                                                  x) ∧
                                ∀ (x : Nat),
                                  x ≤ 32 →
                                    (decide (ofN x < 32) = true →
                                        inI64 (2 + ofN (readN (List.drop (Int.toNat 2) (List.take (List.length b) b)) 0 0).2.1) ∧
                                          inI64
                                              (2 + ofN (readN (List.drop (Int.toNat 2) (List.take (List.length b) b)) 0 0).2.1 +
                                                ofN
                                                  (readN (List.drop (Int.toNat (2 + ofN (readN (List.drop (Int.toNat 2) (List.take (List.length b) b)) 0 0).2.1)) (List.take (List.length b) b)) 0 0).2.1) ∧
                                            inI64
                                                (2 + ofN (readN (List.drop (Int.toNat 2) (List.take (List.length b) b)) 0 0).2.1 +
                                                    ofN
                                                      (readN (List.drop (Int.toNat (2 + ofN (readN (List.drop (Int.toNat 2) (List.take (List.length b) b)) 0 0).2.1)) (List.take (List.length b) b)) 0
                                                            0).2.1 +
                                                  ofN x) ∧
                                              within
                                                  (2 + ofN (readN (List.drop (Int.toNat 2) (List.take (List.length b) b)) 0 0).2.1 +
                                                      ofN
                                                        (readN (List.drop (Int.toNat (2 + ofN (readN (List.drop (Int.toNat 2) (List.take (List.length b) b)) 0 0).2.1)) (List.take (List.length b) b)) 0
                                                              0).2.1 +
                                                    ofN x)
                                                  (List.length b) ∧
                                                within (ofN x) 32 ∧
                                                  inI64 (34 + ofN (readN (List.drop (Int.toNat 2) (List.take (List.length b) b)) 0 0).2.1) ∧
                                                    inI64
                                                        (34 + ofN (readN (List.drop (Int.toNat 2) (List.take (List.length b) b)) 0 0).2.1 +
                                                          ofN
                                                            (readN (List.drop (Int.toNat (2 + ofN (readN (List.drop (Int.toNat 2) (List.take (List.length b) b)) 0 0).2.1)) (List.take (List.length b) b)) 0
                                                                  0).2.1) ∧
                                                      inI64
                                                          (34 + ofN (readN (List.drop (Int.toNat 2) (List.take (List.length b) b)) 0 0).2.1 +
                                                              ofN
                                                                (readN
                                                                      (List.drop (Int.toNat (2 + ofN (readN (List.drop (Int.toNat 2) (List.take (List.length b) b)) 0 0).2.1))
                                                                        (List.take (List.length b) b))
                                                                      0 0).2.1 +
                                                            ofN x) ∧
                                                        within
                                                            (34 + ofN (readN (List.drop (Int.toNat 2) (List.take (List.length b) b)) 0 0).2.1 +
                                                                ofN
                                                                  (readN
                                                                        (List.drop (Int.toNat (2 + ofN (readN (List.drop (Int.toNat 2) (List.take (List.length b) b)) 0 0).2.1))
                                                                          (List.take (List.length b) b))
                                                                        0 0).2.1 +
                                                              ofN x)
                                                            (List.length b) ∧
                                                          within (ofN x) 32 ∧
                                                            inI64 (ofN x + 1) ∧
                                                              ∃ (x' : Nat),
                                                                x' ≤ 32 ∧
                                                                  32 - x' < 32 - x ∧
                                                                    ofN x + 1 = ofN x' ∧
                                                                      ofN (BitVec.toNat (List.getD b 1 0#8)) = ofN (BitVec.toNat (List.getD b 1 0#8)) ∧
                                                                        BitVec.toInt (BitVec.setWidth 64 (BitVec.ofNat 64 (readN (List.drop (Int.toNat 2) (List.take (List.length b) b)) 0 0).1)) =
                                                                            BitVec.toInt (BitVec.setWidth 64 (BitVec.ofNat 64 (readN (List.drop (Int.toNat 2) (List.take (List.length b) b)) 0 0).1)) ∧
                                                                          BitVec.toInt
                                                                                (BitVec.setWidth 64
                                                                                  (BitVec.ofNat 64
                                                                                    (readN
                                                                                        (List.drop (Int.toNat (2 + ofN (readN (List.drop (Int.toNat 2) (List.take (List.length b) b)) 0 0).2.1))
                                                                                          (List.take (List.length b) b))
                                                                                        0 0).1)) =
                                                                              BitVec.toInt
                                                                                (BitVec.setWidth 64
                                                                                  (BitVec.ofNat 64
                                                                                    (readN
                                                                                        (List.drop (Int.toNat (2 + ofN (readN (List.drop (Int.toNat 2) (List.take (List.length b) b)) 0 0).2.1))
                                                                                          (List.take (List.length b) b))
                                                                                        0 0).1)) ∧
                                                                            List.set
                                                                                  (laidV
                                                                                    (List.drop
                                                                                      (Int.toNat
                                                                                        (2 + ofN (readN (List.drop (Int.toNat 2) (List.take (List.length b) b)) 0 0).2.1 +
                                                                                          ofN
                                                                                            (readN
                                                                                                  (List.drop (Int.toNat (2 + ofN (readN (List.drop (Int.toNat 2) (List.take (List.length b) b)) 0 0).2.1))
                                                                                                    (List.take (List.length b) b))
                                                                                                  0 0).2.1))
                                                                                      b)
                                                                                    x)
                                                                                  (Int.toNat (ofN x))
                                                                                  (List.getD b
                                                                                    (Int.toNat
                                                                                      (2 + ofN (readN (List.drop (Int.toNat 2) (List.take (List.length b) b)) 0 0).2.1 +
                                                                                          ofN
                                                                                            (readN
                                                                                                  (List.drop (Int.toNat (2 + ofN (readN (List.drop (Int.toNat 2) (List.take (List.length b) b)) 0 0).2.1))
                                                                                                    (List.take (List.length b) b))
                                                                                                  0 0).2.1 +
                                                                                        ofN x))
                                                                                    0#8) =
                                                                                laidV
                                                                                  (List.drop
                                                                                    (Int.toNat
                                                                                      (2 + ofN (readN (List.drop (Int.toNat 2) (List.take (List.length b) b)) 0 0).2.1 +
                                                                                        ofN
                                                                                          (readN
                                                                                                (List.drop (Int.toNat (2 + ofN (readN (List.drop (Int.toNat 2) (List.take (List.length b) b)) 0 0).2.1))
                                                                                                  (List.take (List.length b) b))
                                                                                                0 0).2.1))
                                                                                    b)
                                                                                  x' ∧
                                                                              List.set
                                                                                  (laidV
                                                                                    (List.drop
                                                                                      (Int.toNat
                                                                                        (34 + ofN (readN (List.drop (Int.toNat 2) (List.take (List.length b) b)) 0 0).2.1 +
                                                                                          ofN
                                                                                            (readN
                                                                                                  (List.drop (Int.toNat (2 + ofN (readN (List.drop (Int.toNat 2) (List.take (List.length b) b)) 0 0).2.1))
                                                                                                    (List.take (List.length b) b))
                                                                                                  0 0).2.1))
                                                                                      b)
                                                                                    x)
                                                                                  (Int.toNat (ofN x))
                                                                                  (List.getD b
                                                                                    (Int.toNat
                                                                                      (34 + ofN (readN (List.drop (Int.toNat 2) (List.take (List.length b) b)) 0 0).2.1 +
                                                                                          ofN
                                                                                            (readN
                                                                                                  (List.drop (Int.toNat (2 + ofN (readN (List.drop (Int.toNat 2) (List.take (List.length b) b)) 0 0).2.1))
                                                                                                    (List.take (List.length b) b))
                                                                                                  0 0).2.1 +
                                                                                        ofN x))
                                                                                    0#8) =
                                                                                laidV
                                                                                  (List.drop
                                                                                    (Int.toNat
                                                                                      (34 + ofN (readN (List.drop (Int.toNat 2) (List.take (List.length b) b)) 0 0).2.1 +
                                                                                        ofN
                                                                                          (readN
                                                                                                (List.drop (Int.toNat (2 + ofN (readN (List.drop (Int.toNat 2) (List.take (List.length b) b)) 0 0).2.1))
                                                                                                  (List.take (List.length b) b))
                                                                                                0 0).2.1))
                                                                                    b)
                                                                                  x') ∧
                                      (decide (ofN x < 32) = false →
                                        (((mbytesV
                                                      (ofN (BitVec.toNat (List.getD b 1 0#8)),
                                                        BitVec.toInt (BitVec.setWidth 64 (BitVec.ofNat 64 (readN (List.drop (Int.toNat 2) (List.take (List.length b) b)) 0 0).1)),
                                                        BitVec.toInt
                                                          (BitVec.setWidth 64
                                                            (BitVec.ofNat 64
                                                              (readN (List.drop (Int.toNat (2 + ofN (readN (List.drop (Int.toNat 2) (List.take (List.length b) b)) 0 0).2.1)) (List.take (List.length b) b))
                                                                  0 0).1)),
                                                        laidV
                                                          (List.drop
                                                            (Int.toNat
                                                              (2 + ofN (readN (List.drop (Int.toNat 2) (List.take (List.length b) b)) 0 0).2.1 +
                                                                ofN
                                                                  (readN
                                                                        (List.drop (Int.toNat (2 + ofN (readN (List.drop (Int.toNat 2) (List.take (List.length b) b)) 0 0).2.1))
                                                                          (List.take (List.length b) b))
                                                                        0 0).2.1))
                                                            b)
                                                          x,
                                                        laidV
                                                          (List.drop
                                                            (Int.toNat
                                                              (34 + ofN (readN (List.drop (Int.toNat 2) (List.take (List.length b) b)) 0 0).2.1 +
                                                                ofN
                                                                  (readN
                                                                        (List.drop (Int.toNat (2 + ofN (readN (List.drop (Int.toNat 2) (List.take (List.length b) b)) 0 0).2.1))
                                                                          (List.take (List.length b) b))
                                                                        0 0).2.1))
                                                            b)
                                                          x)).2 !=
                                                  0 ||
                                                (mbytesV
                                                      (ofN (BitVec.toNat (List.getD b 1 0#8)),
                                                        BitVec.toInt (BitVec.setWidth 64 (BitVec.ofNat 64 (readN (List.drop (Int.toNat 2) (List.take (List.length b) b)) 0 0).1)),
                                                        BitVec.toInt
                                                          (BitVec.setWidth 64
                                                            (BitVec.ofNat 64
                                                              (readN (List.drop (Int.toNat (2 + ofN (readN (List.drop (Int.toNat 2) (List.take (List.length b) b)) 0 0).2.1)) (List.take (List.length b) b))
                                                                  0 0).1)),
                                                        laidV
                                                          (List.drop
                                                            (Int.toNat
                                                              (2 + ofN (readN (List.drop (Int.toNat 2) (List.take (List.length b) b)) 0 0).2.1 +
                                                                ofN
                                                                  (readN
                                                                        (List.drop (Int.toNat (2 + ofN (readN (List.drop (Int.toNat 2) (List.take (List.length b) b)) 0 0).2.1))
                                                                          (List.take (List.length b) b))
                                                                        0 0).2.1))
                                                            b)
                                                          x,
                                                        laidV
                                                          (List.drop
                                                            (Int.toNat
                                                              (34 + ofN (readN (List.drop (Int.toNat 2) (List.take (List.length b) b)) 0 0).2.1 +
                                                                ofN
                                                                  (readN
                                                                        (List.drop (Int.toNat (2 + ofN (readN (List.drop (Int.toNat 2) (List.take (List.length b) b)) 0 0).2.1))
                                                                          (List.take (List.length b) b))
                                                                        0 0).2.1))
                                                            b)
                                                          x)).1 !=
                                                  b) =
                                              true →
                                            (ofN 0 = (parseM b).1.1 ∧
                                                ofN 0 = (parseM b).1.2.1 ∧ ofN 0 = (parseM b).1.2.2.1 ∧ List.replicate 32 0#8 = (parseM b).1.2.2.2.1 ∧ List.replicate 32 0#8 = (parseM b).1.2.2.2.2) ∧
                                              160 = (parseM b).2) ∧
                                          (((mbytesV
                                                      (ofN (BitVec.toNat (List.getD b 1 0#8)),
                                                        BitVec.toInt (BitVec.setWidth 64 (BitVec.ofNat 64 (readN (List.drop (Int.toNat 2) (List.take (List.length b) b)) 0 0).1)),
                                                        BitVec.toInt
                                                          (BitVec.setWidth 64
                                                            (BitVec.ofNat 64
                                                              (readN (List.drop (Int.toNat (2 + ofN (readN (List.drop (Int.toNat 2) (List.take (List.length b) b)) 0 0).2.1)) (List.take (List.length b) b))
                                                                  0 0).1)),
                                                        laidV
                                                          (List.drop
                                                            (Int.toNat
                                                              (2 + ofN (readN (List.drop (Int.toNat 2) (List.take (List.length b) b)) 0 0).2.1 +
                                                                ofN
                                                                  (readN
                                                                        (List.drop (Int.toNat (2 + ofN (readN (List.drop (Int.toNat 2) (List.take (List.length b) b)) 0 0).2.1))
                                                                          (List.take (List.length b) b))
                                                                        0 0).2.1))
                                                            b)
                                                          x,
                                                        laidV
                                                          (List.drop
                                                            (Int.toNat
                                                              (34 + ofN (readN (List.drop (Int.toNat 2) (List.take (List.length b) b)) 0 0).2.1 +
                                                                ofN
                                                                  (readN
                                                                        (List.drop (Int.toNat (2 + ofN (readN (List.drop (Int.toNat 2) (List.take (List.length b) b)) 0 0).2.1))
                                                                          (List.take (List.length b) b))
                                                                        0 0).2.1))
                                                            b)
                                                          x)).2 !=
                                                  0 ||
                                                (mbytesV
                                                      (ofN (BitVec.toNat (List.getD b 1 0#8)),
                                                        BitVec.toInt (BitVec.setWidth 64 (BitVec.ofNat 64 (readN (List.drop (Int.toNat 2) (List.take (List.length b) b)) 0 0).1)),
                                                        BitVec.toInt
                                                          (BitVec.setWidth 64
                                                            (BitVec.ofNat 64
                                                              (readN (List.drop (Int.toNat (2 + ofN (readN (List.drop (Int.toNat 2) (List.take (List.length b) b)) 0 0).2.1)) (List.take (List.length b) b))
                                                                  0 0).1)),
                                                        laidV
                                                          (List.drop
                                                            (Int.toNat
                                                              (2 + ofN (readN (List.drop (Int.toNat 2) (List.take (List.length b) b)) 0 0).2.1 +
                                                                ofN
                                                                  (readN
                                                                        (List.drop (Int.toNat (2 + ofN (readN (List.drop (Int.toNat 2) (List.take (List.length b) b)) 0 0).2.1))
                                                                          (List.take (List.length b) b))
                                                                        0 0).2.1))
                                                            b)
                                                          x,
                                                        laidV
                                                          (List.drop
                                                            (Int.toNat
                                                              (34 + ofN (readN (List.drop (Int.toNat 2) (List.take (List.length b) b)) 0 0).2.1 +
                                                                ofN
                                                                  (readN
                                                                        (List.drop (Int.toNat (2 + ofN (readN (List.drop (Int.toNat 2) (List.take (List.length b) b)) 0 0).2.1))
                                                                          (List.take (List.length b) b))
                                                                        0 0).2.1))
                                                            b)
                                                          x)).1 !=
                                                  b) =
                                              false →
                                            (ofN (BitVec.toNat (List.getD b 1 0#8)) = (parseM b).1.1 ∧
                                                BitVec.toInt (BitVec.setWidth 64 (BitVec.ofNat 64 (readN (List.drop (Int.toNat 2) (List.take (List.length b) b)) 0 0).1)) = (parseM b).1.2.1 ∧
                                                  BitVec.toInt
                                                        (BitVec.setWidth 64
                                                          (BitVec.ofNat 64
                                                            (readN (List.drop (Int.toNat (2 + ofN (readN (List.drop (Int.toNat 2) (List.take (List.length b) b)) 0 0).2.1)) (List.take (List.length b) b)) 0
                                                                0).1)) =
                                                      (parseM b).1.2.2.1 ∧
                                                    laidV
                                                          (List.drop
                                                            (Int.toNat
                                                              (2 + ofN (readN (List.drop (Int.toNat 2) (List.take (List.length b) b)) 0 0).2.1 +
                                                                ofN
                                                                  (readN
                                                                        (List.drop (Int.toNat (2 + ofN (readN (List.drop (Int.toNat 2) (List.take (List.length b) b)) 0 0).2.1))
                                                                          (List.take (List.length b) b))
                                                                        0 0).2.1))
                                                            b)
                                                          x =
                                                        (parseM b).1.2.2.2.1 ∧
                                                      laidV
                                                          (List.drop
                                                            (Int.toNat
                                                              (34 + ofN (readN (List.drop (Int.toNat 2) (List.take (List.length b) b)) 0 0).2.1 +
                                                                ofN
                                                                  (readN
                                                                        (List.drop (Int.toNat (2 + ofN (readN (List.drop (Int.toNat 2) (List.take (List.length b) b)) 0 0).2.1))
                                                                          (List.take (List.length b) b))
                                                                        0 0).2.1))
                                                            b)
                                                          x =
                                                        (parseM b).1.2.2.2.2) ∧
                                              0 = (parseM b).2))))) := by
  have hb' : b.length ≤ 9223372036854775807 := hb
  have e2 : List.drop (Int.toNat 2) (List.take b.length b) = b.drop 2 := by rw [List.take_length]; rfl
  rw [e2]
  have hle1 := readN_le (b.drop 2) 0 0
  have hten1 := readN_ten (b.drop 2) 0 0 (by omega)
  rcases hR1 : readN (List.drop 2 b) 0 0 with ⟨v1, n, s1⟩
  rw [hR1] at hle1 hten1
  dsimp only at hle1 hten1 ⊢
  rw [List.length_drop] at hle1
  have e3 : List.drop (Int.toNat (2 + ofN n)) (List.take b.length b) = b.drop (2 + n) := by
    rw [List.take_length]
    have e : Int.toNat (2 + ofN n) = 2 + n := by unfold ofN; omega
    rw [e]
  rw [e3]
  have hle2 := readN_le (b.drop (2 + n)) 0 0
  have hten2 := readN_ten (b.drop (2 + n)) 0 0 (by omega)
  rcases hR2 : readN (List.drop (2 + n) b) 0 0 with ⟨v2, k, s2⟩
  rw [hR2] at hle2 hten2
  dsimp only at hle2 hten2 ⊢
  rw [List.length_drop] at hle2
  have hNK : Int.toNat (2 + ofN n + ofN k) = 2 + n + k := by unfold ofN; omega
  have hMK : Int.toNat (34 + ofN n + ofN k) = 34 + n + k := by unfold ofN; omega
  rw [hNK, hMK]
  have cmp : ∀ v : Nat, decide (1073741824#64 < BitVec.ofNat 64 v) = decide (1073741824 < (BitVec.ofNat 64 v).toNat) := fun v => by
    rw [Bool.eq_iff_iff]
    simp only [decide_eq_true_eq, BitVec.lt_def]
    exact Iff.rfl
  have err : ∀ s : Nat, (ofN s != 0) = !decide (s = 0) := fun s => by
    rw [Bool.eq_iff_iff]
    simp only [bne_iff_ne, ne_eq, Bool.not_eq_true', decide_eq_false_iff_not, ofN]
    omega
  have num : ∀ v : Nat, (BitVec.ofNat 64 v).toNat ≤ 1073741824 → BitVec.toInt (BitVec.setWidth 64 (BitVec.ofNat 64 v)) = ((BitVec.ofNat 64 v).toNat : Int) := fun v hv => by
    rw [BitVec.setWidth_eq, BitVec.toInt_eq_toNat_cond, if_pos (by omega)]
  rw [cmp, cmp, err, err]
  have bad : parseM b = (mark0, 160) → (ofN 0 = (parseM b).1.1 ∧ ofN 0 = (parseM b).1.2.1 ∧ ofN 0 = (parseM b).1.2.2.1 ∧ List.replicate 32 0#8 = (parseM b).1.2.2.2.1 ∧ List.replicate 32 0#8 = (parseM b).1.2.2.2.2) ∧ 160 = (parseM b).2 := fun h => by
    rw [h]; exact ⟨⟨rfl, rfl, rfl, rfl, rfl⟩, rfl⟩
  have g1 : ∀ {s v : Nat}, (!decide (s = 0) || decide (1073741824 < (BitVec.ofNat 64 v).toNat)) = true → ¬ (s = 0 ∧ (BitVec.ofNat 64 v).toNat ≤ 1073741824) := fun h q => by
    simp only [Bool.or_eq_true, Bool.not_eq_true', decide_eq_false_iff_not, decide_eq_true_eq] at h
    omega
  have g2 : ∀ {s v : Nat}, (!decide (s = 0) || decide (1073741824 < (BitVec.ofNat 64 v).toNat)) = false → s = 0 ∧ (BitVec.ofNat 64 v).toNat ≤ 1073741824 := fun h => by
    simp only [Bool.or_eq_false_iff, Bool.not_eq_false', decide_eq_true_eq, decide_eq_false_iff_not] at h
    omega
  refine ⟨fun h => bad (if_neg fun q => ?_), fun h => ?_⟩
  · have h := of_decide_eq_true h
    unfold ofN at h; omega
  have h := of_decide_eq_false h
  have hl2 : 2 ≤ b.length := by unfold ofN at h; omega
  refine ⟨by unfold within; omega, ⟨by decide, by unfold ofN; omega⟩, fun h1 => bad ?_, fun h1 => ?_⟩
  · refine parse_bad ?_
    rw [mnum_bad hR1 (g1 h1)]
    decide
  obtain ⟨rfl, hv1⟩ := g2 h1
  have hn := hten1 rfl
  refine ⟨by unfold inI64 ofN; omega, ⟨by unfold ofN; omega, by unfold ofN; omega⟩, fun h2 => ?_, fun h2 => ?_, fun h2 => ?_, fun h2 => bad ?_, fun h2 => ?_⟩
  · unfold inI64 ofN; omega
  · have := hten2 (g2 h2).1
    unfold inI64 ofN; omega
  · have := hten2 (g2 h2).1
    unfold inI64 ofN; omega
  · refine parse_bad fun hq => ?_
    rw [mnum_ok hR1 hv1, List.drop_drop] at hq
    by_cases q : s2 = 0 ∧ (BitVec.ofNat 64 v2).toNat ≤ 1073741824
    · obtain ⟨rfl, hv2⟩ := q
      have e := mnum_ok hR2 hv2
      rw [List.drop_drop] at e
      rw [e] at hq
      have hq : (b.drop (2 + n + k)).length = 64 := hq
      rw [List.length_drop] at hq
      simp only [Bool.or_eq_true, Bool.not_eq_true', decide_eq_false_iff_not, decide_eq_true_eq, bne_iff_ne, ne_eq] at h2
      have hb3 : ¬ b.length = 2 + n + k + 64 := fun e => by
        rcases h2 with (h2 | h2) | h2
        · exact h2 trivial
        · omega
        · exact h2 (by rw [e]; unfold ofN; omega)
      omega
    · have e := mnum_bad hR2 q
      have hq : (mnumV (b.drop (2 + n))).2.length = 64 := hq
      rw [e] at hq
      cases hq
  · rw [Bool.or_eq_false_iff] at h2
    obtain ⟨h2, h3⟩ := h2
    obtain ⟨rfl, hv2⟩ := g2 h2
    have hk := hten2 rfl
    have hl : b.length = 2 + n + k + 64 := by
      simp only [bne_eq_false_iff_eq, ofN] at h3
      omega
    obtain ⟨p1, p2⟩ := parse_at hR1 hv1 hR2 hv2
    have p2 := p2 hl
    rw [num v1 hv1, num v2 hv2]
    refine ⟨⟨0, by omega, rfl, rfl, rfl, rfl, (laid_zero _).symm, (laid_zero _).symm⟩, fun x hx => ⟨fun hc => ?_, fun hc => ?_⟩⟩
    · have hc := of_decide_eq_true hc
      have hc : x < 32 := by unfold ofN at hc; omega
      have i1 : Int.toNat (2 + ofN n + ofN k + ofN x) = 2 + n + k + x := by unfold ofN; omega
      have i2 : Int.toNat (34 + ofN n + ofN k + ofN x) = 34 + n + k + x := by unfold ofN; omega
      have gd : ∀ m : Nat, (b.drop m).getD x 0#8 = b.getD (m + x) 0#8 := fun m => by
        rw [List.getD_eq_getElem?_getD, List.getD_eq_getElem?_getD, List.getElem?_drop]
      rw [i1, i2, show Int.toNat (ofN x) = x from rfl]
      refine ⟨by unfold inI64 ofN; omega, by unfold inI64 ofN; omega, by unfold inI64 ofN; omega, by unfold within ofN; omega, by unfold within ofN; omega, by unfold inI64 ofN; omega, by unfold inI64 ofN; omega, by unfold inI64 ofN; omega, by unfold within ofN; omega, by unfold within ofN; omega, by unfold inI64 ofN; omega,
        x + 1, by omega, by omega, by unfold ofN; omega, rfl, rfl, rfl, laid_set (by rw [List.length_drop]; omega) hc (gd _), laid_set (by rw [List.length_drop]; omega) hc (gd _)⟩
    · have hc := of_decide_eq_false hc
      have hc : x = 32 := by unfold ofN at hc; omega
      subst hc
      rw [laid_all, laid_all]
      rw [show ((ofN (BitVec.toNat (List.getD b 1 0#8)), ((BitVec.ofNat 64 v1).toNat : Int), ((BitVec.ofNat 64 v2).toNat : Int), List.take 32 (List.drop (2 + n + k) b), List.take 32 (List.drop (34 + n + k) b)) : Mark) = parseAt b from p2.symm]
      refine ⟨fun h4 => bad (parse_none fun q => ?_), fun h4 => ?_⟩
      · rw [q] at h4
        simp at h4
      · simp only [Bool.or_eq_false_iff, bne_eq_false_iff_eq] at h4
        have q : mbytesV (parseAt b) = (b, 0) := Prod.ext h4.2 h4.1
        rw [parse_good hl2 (by rw [p1, List.length_drop]; omega) q, p2]
        exact ⟨⟨rfl, rfl, rfl, rfl, rfl⟩, rfl⟩

theorem law16_CheckMarks_vc (key : Bytes) (m : Mark) (b : Bytes) :
    List.length (List.take 300 key) ≤ 1000000 ∧
      List.length (List.take 300 key) ≤ 1000000 ∧
        (((mkV (List.take 300 key) m.1 (m.2.1, m.2.2.1, m.2.2.2.1)).1.1 == (mkV (List.take 300 key) m.1 (m.2.1, m.2.2.1, m.2.2.2.1)).1.1 &&
                            ((mkV (List.take 300 key) m.1 (m.2.1, m.2.2.1, m.2.2.2.1)).1.2.1 == (mkV (List.take 300 key) m.1 (m.2.1, m.2.2.1, m.2.2.2.1)).1.2.1 &&
                                ((mkV (List.take 300 key) m.1 (m.2.1, m.2.2.1, m.2.2.2.1)).1.2.2.1 == (mkV (List.take 300 key) m.1 (m.2.1, m.2.2.1, m.2.2.2.1)).1.2.2.1 &&
                                  eqL T.u8 (mkV (List.take 300 key) m.1 (m.2.1, m.2.2.1, m.2.2.2.1)).1.2.2.2.1 (mkV (List.take 300 key) m.1 (m.2.1, m.2.2.1, m.2.2.2.1)).1.2.2.2.1) &&
                              eqL T.u8 (mkV (List.take 300 key) m.1 (m.2.1, m.2.2.1, m.2.2.2.1)).1.2.2.2.2 (mkV (List.take 300 key) m.1 (m.2.1, m.2.2.1, m.2.2.2.1)).1.2.2.2.2) &&
                          (mkV (List.take 300 key) m.1 (m.2.1, m.2.2.1, m.2.2.2.1)).2 == (mkV (List.take 300 key) m.1 (m.2.1, m.2.2.1, m.2.2.2.1)).2 &&
                        (mbytesV m).1 == (mbytesV m).1 &&
                      (mbytesV m).2 == (mbytesV m).2 &&
                    ((parseM b).1.1 == (parseM b).1.1 &&
                      ((parseM b).1.2.1 == (parseM b).1.2.1 && ((parseM b).1.2.2.1 == (parseM b).1.2.2.1 && eqL T.u8 (parseM b).1.2.2.2.1 (parseM b).1.2.2.2.1) &&
                        eqL T.u8 (parseM b).1.2.2.2.2 (parseM b).1.2.2.2.2)) &&
                  (parseM b).2 == (parseM b).2 &&
                mcheckV m == mcheckV m) =
              true →
            List.length (List.take 300 key) ≤ 1000000) ∧
          (((mkV (List.take 300 key) m.1 (m.2.1, m.2.2.1, m.2.2.2.1)).1.1 == (mkV (List.take 300 key) m.1 (m.2.1, m.2.2.1, m.2.2.2.1)).1.1 &&
                              ((mkV (List.take 300 key) m.1 (m.2.1, m.2.2.1, m.2.2.2.1)).1.2.1 == (mkV (List.take 300 key) m.1 (m.2.1, m.2.2.1, m.2.2.2.1)).1.2.1 &&
                                  ((mkV (List.take 300 key) m.1 (m.2.1, m.2.2.1, m.2.2.2.1)).1.2.2.1 == (mkV (List.take 300 key) m.1 (m.2.1, m.2.2.1, m.2.2.2.1)).1.2.2.1 &&
                                    eqL T.u8 (mkV (List.take 300 key) m.1 (m.2.1, m.2.2.1, m.2.2.2.1)).1.2.2.2.1 (mkV (List.take 300 key) m.1 (m.2.1, m.2.2.1, m.2.2.2.1)).1.2.2.2.1) &&
                                eqL T.u8 (mkV (List.take 300 key) m.1 (m.2.1, m.2.2.1, m.2.2.2.1)).1.2.2.2.2 (mkV (List.take 300 key) m.1 (m.2.1, m.2.2.1, m.2.2.2.1)).1.2.2.2.2) &&
                            (mkV (List.take 300 key) m.1 (m.2.1, m.2.2.1, m.2.2.2.1)).2 == (mkV (List.take 300 key) m.1 (m.2.1, m.2.2.1, m.2.2.2.1)).2 &&
                          (mbytesV m).1 == (mbytesV m).1 &&
                        (mbytesV m).2 == (mbytesV m).2 &&
                      ((parseM b).1.1 == (parseM b).1.1 &&
                        ((parseM b).1.2.1 == (parseM b).1.2.1 && ((parseM b).1.2.2.1 == (parseM b).1.2.2.1 && eqL T.u8 (parseM b).1.2.2.2.1 (parseM b).1.2.2.2.1) &&
                          eqL T.u8 (parseM b).1.2.2.2.2 (parseM b).1.2.2.2.2)) &&
                    (parseM b).2 == (parseM b).2 &&
                  mcheckV m == mcheckV m) =
                true →
              List.length (List.take 300 key) ≤ 1000000) ∧
            ((mkV (List.take 300 key) m.1 (m.2.1, m.2.2.1, m.2.2.2.1)).1.1 == (mkV (List.take 300 key) m.1 (m.2.1, m.2.2.1, m.2.2.2.1)).1.1 &&
                                ((mkV (List.take 300 key) m.1 (m.2.1, m.2.2.1, m.2.2.2.1)).1.2.1 == (mkV (List.take 300 key) m.1 (m.2.1, m.2.2.1, m.2.2.2.1)).1.2.1 &&
                                    ((mkV (List.take 300 key) m.1 (m.2.1, m.2.2.1, m.2.2.2.1)).1.2.2.1 == (mkV (List.take 300 key) m.1 (m.2.1, m.2.2.1, m.2.2.2.1)).1.2.2.1 &&
                                      eqL T.u8 (mkV (List.take 300 key) m.1 (m.2.1, m.2.2.1, m.2.2.2.1)).1.2.2.2.1 (mkV (List.take 300 key) m.1 (m.2.1, m.2.2.1, m.2.2.2.1)).1.2.2.2.1) &&
                                  eqL T.u8 (mkV (List.take 300 key) m.1 (m.2.1, m.2.2.1, m.2.2.2.1)).1.2.2.2.2 (mkV (List.take 300 key) m.1 (m.2.1, m.2.2.1, m.2.2.2.1)).1.2.2.2.2) &&
                              (mkV (List.take 300 key) m.1 (m.2.1, m.2.2.1, m.2.2.2.1)).2 == (mkV (List.take 300 key) m.1 (m.2.1, m.2.2.1, m.2.2.2.1)).2 &&
                            (mbytesV m).1 == (mbytesV m).1 &&
                          (mbytesV m).2 == (mbytesV m).2 &&
                        ((parseM b).1.1 == (parseM b).1.1 &&
                          ((parseM b).1.2.1 == (parseM b).1.2.1 && ((parseM b).1.2.2.1 == (parseM b).1.2.2.1 && eqL T.u8 (parseM b).1.2.2.2.1 (parseM b).1.2.2.2.1) &&
                            eqL T.u8 (parseM b).1.2.2.2.2 (parseM b).1.2.2.2.2)) &&
                      (parseM b).2 == (parseM b).2 &&
                    mcheckV m == mcheckV m &&
                  sealedV (List.take 300 key) m == sealedV (List.take 300 key) m &&
                true) =
              true := by
  have hk : (List.take 300 key).length ≤ 1000000 := by rw [List.length_take]; omega
  have es : ∀ a : Bytes, eqL T.u8 a a = true := fun a => by rw [eqL_u8]; simp
  rw [es, es, es, es]
  exact ⟨hk, hk, fun _ => hk, fun _ => hk, by simp⟩

theorem ref16_Parse_spec : Vse.Spec P f_ref16_Parse c_mParse :=
  spec_fn (l := [(f_ref01_Read, c_Read), (f_ref16_Bytes, c_mBytes)]) ⟨ref01_Read_spec, ref16_Bytes_spec, trivial⟩ h_ref16_Parse rfl rfl
    fun x _ ok => body_ok (an_rParse x.1 (((x.1.getD 1 0#8).toNat : Nat) : Int)) (ref16_Parse_vc x.1 ok.1.1) (by kernel_rfl)

theorem law16_CheckMarks_spec : Vse.Spec P f_law16_CheckMarks (c_law16 [.slc .u8, T_Mark, .slc .u8]) :=
  spec_fn (l := [(f_law16_cut, c_cut16), (f_check_Make, c_mMake), (f_ref16_Make, c_mMake), (f_check_Bytes, c_mBytes), (f_ref16_Bytes, c_mBytes), (f_check_Parse, c_mParse), (f_ref16_Parse, c_mParse), (f_check_Check, c_mCheck), (f_ref16_Check, c_mCheck), (f_check_Sealed, c_Sealed), (f_ref16_Sealed, c_Sealed), (f_law16_awake, c_true16)])
    ⟨law16_cut_spec, check_Make_spec, ref16_Make_spec, check_Bytes_spec, ref16_Bytes_spec, check_Parse_spec, ref16_Parse_spec, check_Check_spec, ref16_Check_spec, check_Sealed_spec, ref16_Sealed_spec, law16_awake_spec, trivial⟩ h_law16_CheckMarks rfl rfl
    fun x _ _ => body_ok an_none (law16_CheckMarks_vc x.1 x.2.1 x.2.2.1) (by kernel_rfl)

end Go.Sal
