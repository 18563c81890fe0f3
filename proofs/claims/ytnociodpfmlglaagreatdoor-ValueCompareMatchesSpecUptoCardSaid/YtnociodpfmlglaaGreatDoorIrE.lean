/-
  The entries of the functions.
-/
import Derived.Test.YtnociodpfmlglaaGreatDoorIrT
set_option linter.unusedVariables false
set_option maxRecDepth 100000
namespace Go.Proofs.YtnociodpfmlglaaGreatDoor
namespace Ve
open Go
theorem e6 {args : List Value} {H : Heap} {Q : Out → Prop} (h : EvK tab b6 [] (ent args 32) H (finO [(.tmp 4)] Q)) : Cl tab 6 args H Q := Cl_ent (fn := c6) rfl h
theorem e16 {args : List Value} {H : Heap} {Q : Out → Prop} (h : EvK tab b16 [] (ent args 56) H (finO [(.tmp 2)] Q)) : Cl tab 16 args H Q := Cl_ent (fn := c16) rfl h
theorem e17 {args : List Value} {H : Heap} {Q : Out → Prop} (h : EvK tab b17 [] (ent args 53) H (finO [(.tmp 2)] Q)) : Cl tab 17 args H Q := Cl_ent (fn := c17) rfl h
theorem e18 {args : List Value} {H : Heap} {Q : Out → Prop} (h : EvK tab b18 [] (ent args 6) H (finO [(.tmp 2)] Q)) : Cl tab 18 args H Q := Cl_ent (fn := c18) rfl h
theorem e19 {args : List Value} {H : Heap} {Q : Out → Prop} (h : EvK tab b19 [] (ent args 6) H (finO [(.tmp 2)] Q)) : Cl tab 19 args H Q := Cl_ent (fn := c19) rfl h
theorem e20 {args : List Value} {H : Heap} {Q : Out → Prop} (h : EvK tab b20 [] (ent args 11) H (finO [(.tmp 2)] Q)) : Cl tab 20 args H Q := Cl_ent (fn := c20) rfl h
theorem e21 {args : List Value} {H : Heap} {Q : Out → Prop} (h : EvK tab b21 [] (ent args 12) H (finO [(.tmp 2)] Q)) : Cl tab 21 args H Q := Cl_ent (fn := c21) rfl h
theorem e32 {args : List Value} {H : Heap} {Q : Out → Prop} (h : EvK tab b32 [] (ent args 16) H (finO [(.tmp 4), (.tmp 5)] Q)) : Cl tab 32 args H Q := Cl_ent (fn := c32) rfl h
theorem e33 {args : List Value} {H : Heap} {Q : Out → Prop} (h : EvK tab b33 [] (ent args 16) H (finO [(.tmp 4), (.tmp 5)] Q)) : Cl tab 33 args H Q := Cl_ent (fn := c33) rfl h
theorem e73 {args : List Value} {H : Heap} {Q : Out → Prop} (h : EvK tab b73 [] (ent args 43) H (finO [(.tmp 4)] Q)) : Cl tab 73 args H Q := Cl_ent (fn := c73) rfl h
theorem e74 {args : List Value} {H : Heap} {Q : Out → Prop} (h : EvK tab b74 [] (ent args 9) H (finO [(.tmp 2)] Q)) : Cl tab 74 args H Q := Cl_ent (fn := c74) rfl h
theorem e75 {args : List Value} {H : Heap} {Q : Out → Prop} (h : EvK tab b75 [] (ent args 16) H (finO [(.tmp 2)] Q)) : Cl tab 75 args H Q := Cl_ent (fn := c75) rfl h
theorem e76 {args : List Value} {H : Heap} {Q : Out → Prop} (h : EvK tab b76 [] (ent args 25) H (finO [(.tmp 2)] Q)) : Cl tab 76 args H Q := Cl_ent (fn := c76) rfl h
theorem e77 {args : List Value} {H : Heap} {Q : Out → Prop} (h : EvK tab b77 [] (ent args 23) H (finO [(.tmp 4)] Q)) : Cl tab 77 args H Q := Cl_ent (fn := c77) rfl h
theorem e78 {args : List Value} {H : Heap} {Q : Out → Prop} (h : EvK tab b78 [] (ent args 31) H (finO [(.tmp 4)] Q)) : Cl tab 78 args H Q := Cl_ent (fn := c78) rfl h
theorem e79 {args : List Value} {H : Heap} {Q : Out → Prop} (h : EvK tab b79 [] (ent args 25) H (finO [(.tmp 2)] Q)) : Cl tab 79 args H Q := Cl_ent (fn := c79) rfl h
theorem e80 {args : List Value} {H : Heap} {Q : Out → Prop} (h : EvK tab b80 [] (ent args 30) H (finO [(.tmp 2), (.tmp 3)] Q)) : Cl tab 80 args H Q := Cl_ent (fn := c80) rfl h
theorem e94 {args : List Value} {H : Heap} {Q : Out → Prop} (h : EvK tab b94 [] (ent args 13) H (finO [(.tmp 4)] Q)) : Cl tab 94 args H Q := Cl_ent (fn := c94) rfl h
theorem e95 {args : List Value} {H : Heap} {Q : Out → Prop} (h : EvK tab b95 [] (ent args 45) H (finO [(.tmp 4)] Q)) : Cl tab 95 args H Q := Cl_ent (fn := c95) rfl h
theorem e96 {args : List Value} {H : Heap} {Q : Out → Prop} (h : EvK tab b96 [] (ent args 13) H (finO [(.tmp 4)] Q)) : Cl tab 96 args H Q := Cl_ent (fn := c96) rfl h
theorem e97 {args : List Value} {H : Heap} {Q : Out → Prop} (h : EvK tab b97 [] (ent args 91) H (finO [(.tmp 4)] Q)) : Cl tab 97 args H Q := Cl_ent (fn := c97) rfl h
theorem e103 {args : List Value} {H : Heap} {Q : Out → Prop} (h : EvK tab b103 [] (ent args 27) H (finO [(.tmp 4)] Q)) : Cl tab 103 args H Q := Cl_ent (fn := c103) rfl h
theorem e109 {args : List Value} {H : Heap} {Q : Out → Prop} (h : EvK tab b109 [] (ent args 35) H (finO [(.tmp 2)] Q)) : Cl tab 109 args H Q := Cl_ent (fn := c109) rfl h
theorem e113 {args : List Value} {H : Heap} {Q : Out → Prop} (h : EvK tab b113 [] (ent args 15) H (finO [(.tmp 4)] Q)) : Cl tab 113 args H Q := Cl_ent (fn := c113) rfl h
theorem e115 {args : List Value} {H : Heap} {Q : Out → Prop} (h : EvK tab b115 [] (ent args 23) H (finO [(.tmp 4)] Q)) : Cl tab 115 args H Q := Cl_ent (fn := c115) rfl h
theorem e117 {args : List Value} {H : Heap} {Q : Out → Prop} (h : EvK tab b117 [] (ent args 41) H (finO [(.tmp 4)] Q)) : Cl tab 117 args H Q := Cl_ent (fn := c117) rfl h
theorem e119 {args : List Value} {H : Heap} {Q : Out → Prop} (h : EvK tab b119 [] (ent args 66) H (finO [(.tmp 4)] Q)) : Cl tab 119 args H Q := Cl_ent (fn := c119) rfl h
theorem e122 {args : List Value} {H : Heap} {Q : Out → Prop} (h : EvK tab b122 [] (ent args 21) H (finO [(.tmp 4)] Q)) : Cl tab 122 args H Q := Cl_ent (fn := c122) rfl h
theorem e123 {args : List Value} {H : Heap} {Q : Out → Prop} (h : EvK tab b123 [] (ent args 14) H (finO [(.tmp 2)] Q)) : Cl tab 123 args H Q := Cl_ent (fn := c123) rfl h
theorem e153 {args : List Value} {H : Heap} {Q : Out → Prop} (h : EvK tab b153 [] (ent args 17) H (finO [(.tmp 4)] Q)) : Cl tab 153 args H Q := Cl_ent (fn := c153) rfl h
theorem e154 {args : List Value} {H : Heap} {Q : Out → Prop} (h : EvK tab b154 [] (ent args 23) H (finO [(.tmp 4)] Q)) : Cl tab 154 args H Q := Cl_ent (fn := c154) rfl h
theorem e155 {args : List Value} {H : Heap} {Q : Out → Prop} (h : EvK tab b155 [] (ent args 21) H (finO [(.cell 2 (some 256)), (.tmp 3)] Q)) : Cl tab 155 args H Q := Cl_ent (fn := c155) rfl h
theorem e156 {args : List Value} {H : Heap} {Q : Out → Prop} (h : EvK tab b156 [] (ent args 16) H (finO [(.tmp 4)] Q)) : Cl tab 156 args H Q := Cl_ent (fn := c156) rfl h
theorem e157 {args : List Value} {H : Heap} {Q : Out → Prop} (h : EvK tab b157 [] (ent args 22) H (finO [(.tmp 4)] Q)) : Cl tab 157 args H Q := Cl_ent (fn := c157) rfl h
theorem e160 {args : List Value} {H : Heap} {Q : Out → Prop} (h : EvK tab b160 [] (ent args 58) H (finO [(.tmp 2)] Q)) : Cl tab 160 args H Q := Cl_ent (fn := c160) rfl h
theorem e161 {args : List Value} {H : Heap} {Q : Out → Prop} (h : EvK tab b161 [] (ent args 136) H (finO [(.tmp 2)] Q)) : Cl tab 161 args H Q := Cl_ent (fn := c161) rfl h
theorem e181 {args : List Value} {H : Heap} {Q : Out → Prop} (h : EvK tab b181 [] (ent args 6) H (finO [(.tmp 2)] Q)) : Cl tab 181 args H Q := Cl_ent (fn := c181) rfl h
theorem e182 {args : List Value} {H : Heap} {Q : Out → Prop} (h : EvK tab b182 [] (ent args 11) H (finO [(.tmp 4)] Q)) : Cl tab 182 args H Q := Cl_ent (fn := c182) rfl h
theorem e183 {args : List Value} {H : Heap} {Q : Out → Prop} (h : EvK tab b183 [] (ent args 8) H (finO [(.tmp 4)] Q)) : Cl tab 183 args H Q := Cl_ent (fn := c183) rfl h
theorem e184 {args : List Value} {H : Heap} {Q : Out → Prop} (h : EvK tab b184 [] (ent args 58) H (finO [(.tmp 4)] Q)) : Cl tab 184 args H Q := Cl_ent (fn := c184) rfl h
theorem e185 {args : List Value} {H : Heap} {Q : Out → Prop} (h : EvK tab b185 [] (ent args 13) H (finO [(.tmp 2)] Q)) : Cl tab 185 args H Q := Cl_ent (fn := c185) rfl h
theorem e186 {args : List Value} {H : Heap} {Q : Out → Prop} (h : EvK tab b186 [] (ent args 11) H (finO [(.tmp 4)] Q)) : Cl tab 186 args H Q := Cl_ent (fn := c186) rfl h
theorem e190 {args : List Value} {H : Heap} {Q : Out → Prop} (h : EvK tab b190 [] (ent args 10) H (finO [(.tmp 2)] Q)) : Cl tab 190 args H Q := Cl_ent (fn := c190) rfl h
theorem e191 {args : List Value} {H : Heap} {Q : Out → Prop} (h : EvK tab b191 [] (ent args 28) H (finO [(.tmp 4)] Q)) : Cl tab 191 args H Q := Cl_ent (fn := c191) rfl h
theorem e197 {args : List Value} {H : Heap} {Q : Out → Prop} (h : EvK tab b197 [] (ent args 22) H (finO [(.tmp 2)] Q)) : Cl tab 197 args H Q := Cl_ent (fn := c197) rfl h
theorem e233 {args : List Value} {H : Heap} {Q : Out → Prop} (h : EvK tab b233 [] (ent args 10) H (finO [(.tmp 4)] Q)) : Cl tab 233 args H Q := Cl_ent (fn := c233) rfl h
theorem e237 {args : List Value} {H : Heap} {Q : Out → Prop} (h : EvK tab b237 [] (ent args 60) H (finO [(.tmp 2)] Q)) : Cl tab 237 args H Q := Cl_ent (fn := c237) rfl h
theorem e258 {args : List Value} {H : Heap} {Q : Out → Prop} (h : EvK tab b258 [] (ent args 8) H (finO [(.tmp 4)] Q)) : Cl tab 258 args H Q := Cl_ent (fn := c258) rfl h
theorem f24 {H : Heap} {Q : Out → Prop} (q : Q (.ret (.bool true) H)) : Cl tab 24 [] H Q := Cl_intr rfl rfl rfl q

end Ve
end Go.Proofs.YtnociodpfmlglaaGreatDoor
