/-
  The entries of the functions.
-/
import Derived.Test.YtnociodpfmlglaaGreatDoorIrT
set_option linter.unusedVariables false
set_option maxRecDepth 100000
namespace Go.Proofs.YtnociodpfmlglaaGreatDoor
namespace Ve
open Go
theorem e3 {args : List Value} {H : Heap} {Q : Out → Prop} (h : EvK tab b3 [] (ent args 51) H (finO [(.tmp 6)] Q)) : Cl tab 3 args H Q := Cl_ent (fn := c3) rfl h
theorem e16 {args : List Value} {H : Heap} {Q : Out → Prop} (h : EvK tab b16 [] (ent args 56) H (finO [(.tmp 2)] Q)) : Cl tab 16 args H Q := Cl_ent (fn := c16) rfl h
theorem e17 {args : List Value} {H : Heap} {Q : Out → Prop} (h : EvK tab b17 [] (ent args 53) H (finO [(.tmp 2)] Q)) : Cl tab 17 args H Q := Cl_ent (fn := c17) rfl h
theorem e18 {args : List Value} {H : Heap} {Q : Out → Prop} (h : EvK tab b18 [] (ent args 6) H (finO [(.tmp 2)] Q)) : Cl tab 18 args H Q := Cl_ent (fn := c18) rfl h
theorem e19 {args : List Value} {H : Heap} {Q : Out → Prop} (h : EvK tab b19 [] (ent args 6) H (finO [(.tmp 2)] Q)) : Cl tab 19 args H Q := Cl_ent (fn := c19) rfl h
theorem e20 {args : List Value} {H : Heap} {Q : Out → Prop} (h : EvK tab b20 [] (ent args 11) H (finO [(.tmp 2)] Q)) : Cl tab 20 args H Q := Cl_ent (fn := c20) rfl h
theorem e21 {args : List Value} {H : Heap} {Q : Out → Prop} (h : EvK tab b21 [] (ent args 12) H (finO [(.tmp 2)] Q)) : Cl tab 21 args H Q := Cl_ent (fn := c21) rfl h
theorem e22 {args : List Value} {H : Heap} {Q : Out → Prop} (h : EvK tab b22 [] (ent args 18) H (finO [(.tmp 2), (.tmp 3)] Q)) : Cl tab 22 args H Q := Cl_ent (fn := c22) rfl h
theorem e23 {args : List Value} {H : Heap} {Q : Out → Prop} (h : EvK tab b23 [] (ent args 12) H (finO [(.tmp 2), (.tmp 3)] Q)) : Cl tab 23 args H Q := Cl_ent (fn := c23) rfl h
theorem e73 {args : List Value} {H : Heap} {Q : Out → Prop} (h : EvK tab b73 [] (ent args 43) H (finO [(.tmp 4)] Q)) : Cl tab 73 args H Q := Cl_ent (fn := c73) rfl h
theorem e74 {args : List Value} {H : Heap} {Q : Out → Prop} (h : EvK tab b74 [] (ent args 9) H (finO [(.tmp 2)] Q)) : Cl tab 74 args H Q := Cl_ent (fn := c74) rfl h
theorem e75 {args : List Value} {H : Heap} {Q : Out → Prop} (h : EvK tab b75 [] (ent args 16) H (finO [(.tmp 2)] Q)) : Cl tab 75 args H Q := Cl_ent (fn := c75) rfl h
theorem e76 {args : List Value} {H : Heap} {Q : Out → Prop} (h : EvK tab b76 [] (ent args 25) H (finO [(.tmp 2)] Q)) : Cl tab 76 args H Q := Cl_ent (fn := c76) rfl h
theorem e77 {args : List Value} {H : Heap} {Q : Out → Prop} (h : EvK tab b77 [] (ent args 23) H (finO [(.tmp 4)] Q)) : Cl tab 77 args H Q := Cl_ent (fn := c77) rfl h
theorem e78 {args : List Value} {H : Heap} {Q : Out → Prop} (h : EvK tab b78 [] (ent args 31) H (finO [(.tmp 4)] Q)) : Cl tab 78 args H Q := Cl_ent (fn := c78) rfl h
theorem e79 {args : List Value} {H : Heap} {Q : Out → Prop} (h : EvK tab b79 [] (ent args 25) H (finO [(.tmp 2)] Q)) : Cl tab 79 args H Q := Cl_ent (fn := c79) rfl h
theorem e80 {args : List Value} {H : Heap} {Q : Out → Prop} (h : EvK tab b80 [] (ent args 30) H (finO [(.tmp 2), (.tmp 3)] Q)) : Cl tab 80 args H Q := Cl_ent (fn := c80) rfl h
theorem e153 {args : List Value} {H : Heap} {Q : Out → Prop} (h : EvK tab b153 [] (ent args 17) H (finO [(.tmp 4)] Q)) : Cl tab 153 args H Q := Cl_ent (fn := c153) rfl h
theorem e154 {args : List Value} {H : Heap} {Q : Out → Prop} (h : EvK tab b154 [] (ent args 23) H (finO [(.tmp 4)] Q)) : Cl tab 154 args H Q := Cl_ent (fn := c154) rfl h
theorem e155 {args : List Value} {H : Heap} {Q : Out → Prop} (h : EvK tab b155 [] (ent args 21) H (finO [(.cell 2 (some 256)), (.tmp 3)] Q)) : Cl tab 155 args H Q := Cl_ent (fn := c155) rfl h
theorem e156 {args : List Value} {H : Heap} {Q : Out → Prop} (h : EvK tab b156 [] (ent args 16) H (finO [(.tmp 4)] Q)) : Cl tab 156 args H Q := Cl_ent (fn := c156) rfl h
theorem e157 {args : List Value} {H : Heap} {Q : Out → Prop} (h : EvK tab b157 [] (ent args 22) H (finO [(.tmp 4)] Q)) : Cl tab 157 args H Q := Cl_ent (fn := c157) rfl h
theorem e160 {args : List Value} {H : Heap} {Q : Out → Prop} (h : EvK tab b160 [] (ent args 58) H (finO [(.tmp 2)] Q)) : Cl tab 160 args H Q := Cl_ent (fn := c160) rfl h
theorem e161 {args : List Value} {H : Heap} {Q : Out → Prop} (h : EvK tab b161 [] (ent args 136) H (finO [(.tmp 2)] Q)) : Cl tab 161 args H Q := Cl_ent (fn := c161) rfl h
theorem e233 {args : List Value} {H : Heap} {Q : Out → Prop} (h : EvK tab b233 [] (ent args 10) H (finO [(.tmp 4)] Q)) : Cl tab 233 args H Q := Cl_ent (fn := c233) rfl h
theorem e237 {args : List Value} {H : Heap} {Q : Out → Prop} (h : EvK tab b237 [] (ent args 60) H (finO [(.tmp 2)] Q)) : Cl tab 237 args H Q := Cl_ent (fn := c237) rfl h
theorem f24 {H : Heap} {Q : Out → Prop} (q : Q (.ret (.bool true) H)) : Cl tab 24 [] H Q := Cl_intr rfl rfl rfl q

end Ve
end Go.Proofs.YtnociodpfmlglaaGreatDoor
