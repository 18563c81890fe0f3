/-
  The tables of the functions.
-/
import Derived.Test.YtnociodpfmlglaaGreatDoorIrB
set_option linter.unusedVariables false
set_option maxRecDepth 100000
namespace Go.Proofs.YtnociodpfmlglaaGreatDoor
namespace Ve
open Go
def code (f : FuncId) : Option IFun :=
  match f with
  | 6 => some c6
  | 16 => some c16
  | 17 => some c17
  | 18 => some c18
  | 19 => some c19
  | 20 => some c20
  | 21 => some c21
  | 24 => some c24
  | 28 => some c28
  | 32 => some c32
  | 33 => some c33
  | 73 => some c73
  | 74 => some c74
  | 75 => some c75
  | 76 => some c76
  | 77 => some c77
  | 78 => some c78
  | 79 => some c79
  | 80 => some c80
  | 82 => some c82
  | 83 => some c83
  | 84 => some c84
  | 85 => some c85
  | 92 => some c92
  | 94 => some c94
  | 95 => some c95
  | 96 => some c96
  | 97 => some c97
  | 103 => some c103
  | 104 => some c104
  | 106 => some c106
  | 109 => some c109
  | 111 => some c111
  | 113 => some c113
  | 115 => some c115
  | 117 => some c117
  | 119 => some c119
  | 122 => some c122
  | 123 => some c123
  | 153 => some c153
  | 154 => some c154
  | 155 => some c155
  | 156 => some c156
  | 157 => some c157
  | 160 => some c160
  | 161 => some c161
  | 162 => some c162
  | 163 => some c163
  | 164 => some c164
  | 165 => some c165
  | 166 => some c166
  | 167 => some c167
  | 168 => some c168
  | 177 => some c177
  | 178 => some c178
  | 179 => some c179
  | 181 => some c181
  | 182 => some c182
  | 183 => some c183
  | 184 => some c184
  | 185 => some c185
  | 186 => some c186
  | 187 => some c187
  | 190 => some c190
  | 191 => some c191
  | 192 => some c192
  | 194 => some c194
  | 195 => some c195
  | 197 => some c197
  | 198 => some c198
  | 199 => some c199
  | 200 => some c200
  | 201 => some c201
  | 202 => some c202
  | 203 => some c203
  | 233 => some c233
  | 237 => some c237
  | 238 => some c238
  | 239 => some c239
  | 240 => some c240
  | 241 => some c241
  | 242 => some c242
  | 243 => some c243
  | 244 => some c244
  | 245 => some c245
  | 251 => some c251
  | 252 => some c252
  | 253 => some c253
  | 254 => some c254
  | 258 => some c258
  | 259 => some c259
  | 260 => some c260
  | 261 => some c261
  | 262 => some c262
  | 263 => some c263
  | 264 => some c264
  | 265 => some c265
  | 266 => some c266
  | 267 => some c267
  | 268 => some c268
  | 269 => some c269
  | 270 => some c270
  | 290 => some c290
  | 295 => some c295
  | 296 => some c296
  | 297 => some c297
  | 298 => some c298
  | 299 => some c299
  | 303 => some c303
  | 304 => some c304
  | 305 => some c305
  | 308 => some c308
  | 309 => some c309
  | 310 => some c310
  | 311 => some c311
  | 312 => some c312
  | 313 => some c313
  | 332 => some c332
  | 333 => some c333
  | 337 => some c337
  | 338 => some c338
  | 339 => some c339
  | 340 => some c340
  | 341 => some c341
  | 342 => some c342
  | 343 => some c343
  | 344 => some c344
  | 345 => some c345
  | 347 => some c347
  | 348 => some c348
  | 349 => some c349
  | 350 => some c350
  | 355 => some c355
  | 356 => some c356
  | 359 => some c359
  | 360 => some c360
  | 361 => some c361
  | 362 => some c362
  | 363 => some c363
  | 364 => some c364
  | 367 => some c367
  | _ => none

def dfns (f : FuncId) : Option DFn :=
  match f with
  | 25 => some d25
  | _ => none

def intr (f : FuncId) (args : List Value) (H : Heap) : Option Out :=
  match f with
  | 294 => xIndexByte args H
  | 307 => xCompare args H
  | 314 => xSame args H
  | _ => none

/-- The table of the closed call. -/
def tabR : Tab := ⟨code, dfns, intr⟩

/-- The law's table: the closed call by its answer. -/
def tab : Tab := ⟨fun f => if f = 24 then none else code f, dfns, fun f args H => if f = 24 then xClosed (.bool true) args H else intr f args H⟩

end Ve
end Go.Proofs.YtnociodpfmlglaaGreatDoor
