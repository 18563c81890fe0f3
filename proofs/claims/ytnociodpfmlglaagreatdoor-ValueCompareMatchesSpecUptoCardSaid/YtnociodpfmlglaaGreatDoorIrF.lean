/-
  That the functions are the program's.
-/
import Derived.Test.YtnociodpfmlglaaGreatDoorIrT
import Derived.Test.YtnociodpfmlglaaGreatDoorProg
set_option linter.unusedVariables false
set_option maxRecDepth 100000
namespace Go.Proofs.YtnociodpfmlglaaGreatDoor
namespace Ve
open Go
theorem cf6 : compFn Tryz.prog Tryz.f6 [] = some c6 := by kernel_rfl

theorem cf16 : compFn Tryz.prog Tryz.f16 [] = some c16 := by kernel_rfl

theorem cf17 : compFn Tryz.prog Tryz.f17 [] = some c17 := by kernel_rfl

theorem cf18 : compFn Tryz.prog Tryz.f18 [] = some c18 := by kernel_rfl

theorem cf19 : compFn Tryz.prog Tryz.f19 [] = some c19 := by kernel_rfl

theorem cf20 : compFn Tryz.prog Tryz.f20 [] = some c20 := by kernel_rfl

theorem cf21 : compFn Tryz.prog Tryz.f21 [] = some c21 := by kernel_rfl

theorem cf24 : compFn Tryz.prog Tryz.f24 [] = some c24 := by kernel_rfl

theorem cf28 : compFn Tryz.prog Tryz.f28 [] = some c28 := by kernel_rfl

theorem cf32 : compFn Tryz.prog Tryz.f32 [] = some c32 := by kernel_rfl

theorem cf33 : compFn Tryz.prog Tryz.f33 [] = some c33 := by kernel_rfl

theorem cf73 : compFn Tryz.prog Tryz.f73 [] = some c73 := by kernel_rfl

theorem cf74 : compFn Tryz.prog Tryz.f74 [] = some c74 := by kernel_rfl

theorem cf75 : compFn Tryz.prog Tryz.f75 [] = some c75 := by kernel_rfl

theorem cf76 : compFn Tryz.prog Tryz.f76 [] = some c76 := by kernel_rfl

theorem cf77 : compFn Tryz.prog Tryz.f77 [] = some c77 := by kernel_rfl

theorem cf78 : compFn Tryz.prog Tryz.f78 [] = some c78 := by kernel_rfl

theorem cf79 : compFn Tryz.prog Tryz.f79 [] = some c79 := by kernel_rfl

theorem cf80 : compFn Tryz.prog Tryz.f80 [] = some c80 := by kernel_rfl

theorem cf82 : compFn Tryz.prog Tryz.f82 [] = some c82 := by kernel_rfl

theorem cf83 : compFn Tryz.prog Tryz.f83 [] = some c83 := by kernel_rfl

theorem cf84 : compFn Tryz.prog Tryz.f84 [] = some c84 := by kernel_rfl

theorem cf85 : compFn Tryz.prog Tryz.f85 [] = some c85 := by kernel_rfl

theorem cf92 : compFn Tryz.prog Tryz.f92 [] = some c92 := by kernel_rfl

theorem cf94 : compFn Tryz.prog Tryz.f94 [] = some c94 := by kernel_rfl

theorem cf95 : compFn Tryz.prog Tryz.f95 [] = some c95 := by kernel_rfl

theorem cf96 : compFn Tryz.prog Tryz.f96 [] = some c96 := by kernel_rfl

theorem cf97 : compFn Tryz.prog Tryz.f97 [] = some c97 := by kernel_rfl

theorem cf103 : compFn Tryz.prog Tryz.f103 [] = some c103 := by kernel_rfl

theorem cf104 : compFn Tryz.prog Tryz.f104 [] = some c104 := by kernel_rfl

theorem cf106 : compFn Tryz.prog Tryz.f106 [] = some c106 := by kernel_rfl

theorem cf109 : compFn Tryz.prog Tryz.f109 [] = some c109 := by kernel_rfl

theorem cf111 : compFn Tryz.prog Tryz.f111 [] = some c111 := by kernel_rfl

theorem cf113 : compFn Tryz.prog Tryz.f113 [] = some c113 := by kernel_rfl

theorem cf115 : compFn Tryz.prog Tryz.f115 [] = some c115 := by kernel_rfl

theorem cf117 : compFn Tryz.prog Tryz.f117 [] = some c117 := by kernel_rfl

theorem cf119 : compFn Tryz.prog Tryz.f119 [] = some c119 := by kernel_rfl

theorem cf122 : compFn Tryz.prog Tryz.f122 [] = some c122 := by kernel_rfl

theorem cf123 : compFn Tryz.prog Tryz.f123 [] = some c123 := by kernel_rfl

theorem cf153 : compFn Tryz.prog Tryz.f153 [] = some c153 := by kernel_rfl

theorem cf154 : compFn Tryz.prog Tryz.f154 [] = some c154 := by kernel_rfl

theorem cf155 : compFn Tryz.prog Tryz.f155 [] = some c155 := by kernel_rfl

theorem cf156 : compFn Tryz.prog Tryz.f156 [] = some c156 := by kernel_rfl

theorem cf157 : compFn Tryz.prog Tryz.f157 [] = some c157 := by kernel_rfl

theorem cf160 : compFn Tryz.prog Tryz.f160 [] = some c160 := by kernel_rfl

theorem cf161 : compFn Tryz.prog Tryz.f161 [] = some c161 := by kernel_rfl

theorem cf162 : compFn Tryz.prog Tryz.f162 [] = some c162 := by kernel_rfl

theorem cf163 : compFn Tryz.prog Tryz.f163 [] = some c163 := by kernel_rfl

theorem cf164 : compFn Tryz.prog Tryz.f164 [] = some c164 := by kernel_rfl

theorem cf165 : compFn Tryz.prog Tryz.f165 [] = some c165 := by kernel_rfl

theorem cf166 : compFn Tryz.prog Tryz.f166 [] = some c166 := by kernel_rfl

theorem cf167 : compFn Tryz.prog Tryz.f167 [] = some c167 := by kernel_rfl

theorem cf168 : compFn Tryz.prog Tryz.f168 [] = some c168 := by kernel_rfl

theorem cf177 : compFn Tryz.prog Tryz.f177 [] = some c177 := by kernel_rfl

theorem cf178 : compFn Tryz.prog Tryz.f178 [] = some c178 := by kernel_rfl

theorem cf179 : compFn Tryz.prog Tryz.f179 [] = some c179 := by kernel_rfl

theorem cf181 : compFn Tryz.prog Tryz.f181 [] = some c181 := by kernel_rfl

theorem cf182 : compFn Tryz.prog Tryz.f182 [] = some c182 := by kernel_rfl

theorem cf183 : compFn Tryz.prog Tryz.f183 [] = some c183 := by kernel_rfl

theorem cf184 : compFn Tryz.prog Tryz.f184 [] = some c184 := by kernel_rfl

theorem cf185 : compFn Tryz.prog Tryz.f185 [] = some c185 := by kernel_rfl

theorem cf186 : compFn Tryz.prog Tryz.f186 [] = some c186 := by kernel_rfl

theorem cf187 : compFn Tryz.prog Tryz.f187 [] = some c187 := by kernel_rfl

theorem cf190 : compFn Tryz.prog Tryz.f190 [] = some c190 := by kernel_rfl

theorem cf191 : compFn Tryz.prog Tryz.f191 [] = some c191 := by kernel_rfl

theorem cf192 : compFn Tryz.prog Tryz.f192 [] = some c192 := by kernel_rfl

theorem cf194 : compFn Tryz.prog Tryz.f194 [] = some c194 := by kernel_rfl

theorem cf195 : compFn Tryz.prog Tryz.f195 [] = some c195 := by kernel_rfl

theorem cf197 : compFn Tryz.prog Tryz.f197 [] = some c197 := by kernel_rfl

theorem cf198 : compFn Tryz.prog Tryz.f198 [] = some c198 := by kernel_rfl

theorem cf199 : compFn Tryz.prog Tryz.f199 [] = some c199 := by kernel_rfl

theorem cf200 : compFn Tryz.prog Tryz.f200 [] = some c200 := by kernel_rfl

theorem cf201 : compFn Tryz.prog Tryz.f201 [] = some c201 := by kernel_rfl

theorem cf202 : compFn Tryz.prog Tryz.f202 [] = some c202 := by kernel_rfl

theorem cf203 : compFn Tryz.prog Tryz.f203 [] = some c203 := by kernel_rfl

theorem cf233 : compFn Tryz.prog Tryz.f233 [] = some c233 := by kernel_rfl

theorem cf237 : compFn Tryz.prog Tryz.f237 [] = some c237 := by kernel_rfl

theorem cf238 : compFn Tryz.prog Tryz.f238 [] = some c238 := by kernel_rfl

theorem cf239 : compFn Tryz.prog Tryz.f239 [] = some c239 := by kernel_rfl

theorem cf240 : compFn Tryz.prog Tryz.f240 [] = some c240 := by kernel_rfl

theorem cf241 : compFn Tryz.prog Tryz.f241 [] = some c241 := by kernel_rfl

theorem cf242 : compFn Tryz.prog Tryz.f242 [] = some c242 := by kernel_rfl

theorem cf243 : compFn Tryz.prog Tryz.f243 [] = some c243 := by kernel_rfl

theorem cf244 : compFn Tryz.prog Tryz.f244 [] = some c244 := by kernel_rfl

theorem cf245 : compFn Tryz.prog Tryz.f245 [] = some c245 := by kernel_rfl

theorem cf251 : compFn Tryz.prog Tryz.f251 [] = some c251 := by kernel_rfl

theorem cf252 : compFn Tryz.prog Tryz.f252 [] = some c252 := by kernel_rfl

theorem cf253 : compFn Tryz.prog Tryz.f253 [] = some c253 := by kernel_rfl

theorem cf254 : compFn Tryz.prog Tryz.f254 [] = some c254 := by kernel_rfl

theorem cf258 : compFn Tryz.prog Tryz.f258 [] = some c258 := by kernel_rfl

theorem cf259 : compFn Tryz.prog Tryz.f259 [] = some c259 := by kernel_rfl

theorem cf260 : compFn Tryz.prog Tryz.f260 [] = some c260 := by kernel_rfl

theorem cf261 : compFn Tryz.prog Tryz.f261 [] = some c261 := by kernel_rfl

theorem cf262 : compFn Tryz.prog Tryz.f262 [] = some c262 := by kernel_rfl

theorem cf263 : compFn Tryz.prog Tryz.f263 [] = some c263 := by kernel_rfl

theorem cf264 : compFn Tryz.prog Tryz.f264 [] = some c264 := by kernel_rfl

theorem cf265 : compFn Tryz.prog Tryz.f265 [] = some c265 := by kernel_rfl

theorem cf266 : compFn Tryz.prog Tryz.f266 [] = some c266 := by kernel_rfl

theorem cf267 : compFn Tryz.prog Tryz.f267 [] = some c267 := by kernel_rfl

theorem cf268 : compFn Tryz.prog Tryz.f268 [] = some c268 := by kernel_rfl

theorem cf269 : compFn Tryz.prog Tryz.f269 [] = some c269 := by kernel_rfl

theorem cf270 : compFn Tryz.prog Tryz.f270 [] = some c270 := by kernel_rfl

theorem cf290 : compFn Tryz.prog Tryz.f290 [] = some c290 := by kernel_rfl

theorem cf295 : compFn Tryz.prog Tryz.f295 [] = some c295 := by kernel_rfl

theorem cf296 : compFn Tryz.prog Tryz.f296 [] = some c296 := by kernel_rfl

theorem cf297 : compFn Tryz.prog Tryz.f297 [] = some c297 := by kernel_rfl

theorem cf298 : compFn Tryz.prog Tryz.f298 [] = some c298 := by kernel_rfl

theorem cf299 : compFn Tryz.prog Tryz.f299 [] = some c299 := by kernel_rfl

theorem cf303 : compFn Tryz.prog Tryz.f303 [] = some c303 := by kernel_rfl

theorem cf304 : compFn Tryz.prog Tryz.f304 [] = some c304 := by kernel_rfl

theorem cf305 : compFn Tryz.prog Tryz.f305 [] = some c305 := by kernel_rfl

theorem cf308 : compFn Tryz.prog Tryz.f308 [] = some c308 := by kernel_rfl

theorem cf309 : compFn Tryz.prog Tryz.f309 [] = some c309 := by kernel_rfl

theorem cf310 : compFn Tryz.prog Tryz.f310 [] = some c310 := by kernel_rfl

theorem cf311 : compFn Tryz.prog Tryz.f311 [] = some c311 := by kernel_rfl

theorem cf312 : compFn Tryz.prog Tryz.f312 [] = some c312 := by kernel_rfl

theorem cf313 : compFn Tryz.prog Tryz.f313 [] = some c313 := by kernel_rfl

theorem cf332 : compFn Tryz.prog Tryz.f332 [] = some c332 := by kernel_rfl

theorem cf333 : compFn Tryz.prog Tryz.f333 [] = some c333 := by kernel_rfl

theorem cf337 : compFn Tryz.prog Tryz.f337 [] = some c337 := by kernel_rfl

theorem cf338 : compFn Tryz.prog Tryz.f338 [] = some c338 := by kernel_rfl

theorem cf339 : compFn Tryz.prog Tryz.f339 [] = some c339 := by kernel_rfl

theorem cf340 : compFn Tryz.prog Tryz.f340 [] = some c340 := by kernel_rfl

theorem cf341 : compFn Tryz.prog Tryz.f341 [] = some c341 := by kernel_rfl

theorem cf342 : compFn Tryz.prog Tryz.f342 [] = some c342 := by kernel_rfl

theorem cf343 : compFn Tryz.prog Tryz.f343 [] = some c343 := by kernel_rfl

theorem cf344 : compFn Tryz.prog Tryz.f344 [] = some c344 := by kernel_rfl

theorem cf345 : compFn Tryz.prog Tryz.f345 [] = some c345 := by kernel_rfl

theorem cf347 : compFn Tryz.prog Tryz.f347 [] = some c347 := by kernel_rfl

theorem cf348 : compFn Tryz.prog Tryz.f348 [] = some c348 := by kernel_rfl

theorem cf349 : compFn Tryz.prog Tryz.f349 [] = some c349 := by kernel_rfl

theorem cf350 : compFn Tryz.prog Tryz.f350 [] = some c350 := by kernel_rfl

theorem cf355 : compFn Tryz.prog Tryz.f355 [] = some c355 := by kernel_rfl

theorem cf356 : compFn Tryz.prog Tryz.f356 [] = some c356 := by kernel_rfl

theorem cf359 : compFn Tryz.prog Tryz.f359 [] = some c359 := by kernel_rfl

theorem cf360 : compFn Tryz.prog Tryz.f360 [] = some c360 := by kernel_rfl

theorem cf361 : compFn Tryz.prog Tryz.f361 [] = some c361 := by kernel_rfl

theorem cf362 : compFn Tryz.prog Tryz.f362 [] = some c362 := by kernel_rfl

theorem cf363 : compFn Tryz.prog Tryz.f363 [] = some c363 := by kernel_rfl

theorem cf364 : compFn Tryz.prog Tryz.f364 [] = some c364 := by kernel_rfl

theorem cf367 : compFn Tryz.prog Tryz.f367 [] = some c367 := by kernel_rfl

theorem tabOkR : TabOk Tryz.prog tabR := by
  intro f fn h
  change code f = some fn at h
  unfold code at h
  split at h
  · cases h; exact ⟨Tryz.f6, [], Tryz.func6, cf6⟩
  · cases h; exact ⟨Tryz.f16, [], Tryz.func16, cf16⟩
  · cases h; exact ⟨Tryz.f17, [], Tryz.func17, cf17⟩
  · cases h; exact ⟨Tryz.f18, [], Tryz.func18, cf18⟩
  · cases h; exact ⟨Tryz.f19, [], Tryz.func19, cf19⟩
  · cases h; exact ⟨Tryz.f20, [], Tryz.func20, cf20⟩
  · cases h; exact ⟨Tryz.f21, [], Tryz.func21, cf21⟩
  · cases h; exact ⟨Tryz.f24, [], Tryz.func24, cf24⟩
  · cases h; exact ⟨Tryz.f28, [], Tryz.func28, cf28⟩
  · cases h; exact ⟨Tryz.f32, [], Tryz.func32, cf32⟩
  · cases h; exact ⟨Tryz.f33, [], Tryz.func33, cf33⟩
  · cases h; exact ⟨Tryz.f73, [], Tryz.func73, cf73⟩
  · cases h; exact ⟨Tryz.f74, [], Tryz.func74, cf74⟩
  · cases h; exact ⟨Tryz.f75, [], Tryz.func75, cf75⟩
  · cases h; exact ⟨Tryz.f76, [], Tryz.func76, cf76⟩
  · cases h; exact ⟨Tryz.f77, [], Tryz.func77, cf77⟩
  · cases h; exact ⟨Tryz.f78, [], Tryz.func78, cf78⟩
  · cases h; exact ⟨Tryz.f79, [], Tryz.func79, cf79⟩
  · cases h; exact ⟨Tryz.f80, [], Tryz.func80, cf80⟩
  · cases h; exact ⟨Tryz.f82, [], Tryz.func82, cf82⟩
  · cases h; exact ⟨Tryz.f83, [], Tryz.func83, cf83⟩
  · cases h; exact ⟨Tryz.f84, [], Tryz.func84, cf84⟩
  · cases h; exact ⟨Tryz.f85, [], Tryz.func85, cf85⟩
  · cases h; exact ⟨Tryz.f92, [], Tryz.func92, cf92⟩
  · cases h; exact ⟨Tryz.f94, [], Tryz.func94, cf94⟩
  · cases h; exact ⟨Tryz.f95, [], Tryz.func95, cf95⟩
  · cases h; exact ⟨Tryz.f96, [], Tryz.func96, cf96⟩
  · cases h; exact ⟨Tryz.f97, [], Tryz.func97, cf97⟩
  · cases h; exact ⟨Tryz.f103, [], Tryz.func103, cf103⟩
  · cases h; exact ⟨Tryz.f104, [], Tryz.func104, cf104⟩
  · cases h; exact ⟨Tryz.f106, [], Tryz.func106, cf106⟩
  · cases h; exact ⟨Tryz.f109, [], Tryz.func109, cf109⟩
  · cases h; exact ⟨Tryz.f111, [], Tryz.func111, cf111⟩
  · cases h; exact ⟨Tryz.f113, [], Tryz.func113, cf113⟩
  · cases h; exact ⟨Tryz.f115, [], Tryz.func115, cf115⟩
  · cases h; exact ⟨Tryz.f117, [], Tryz.func117, cf117⟩
  · cases h; exact ⟨Tryz.f119, [], Tryz.func119, cf119⟩
  · cases h; exact ⟨Tryz.f122, [], Tryz.func122, cf122⟩
  · cases h; exact ⟨Tryz.f123, [], Tryz.func123, cf123⟩
  · cases h; exact ⟨Tryz.f153, [], Tryz.func153, cf153⟩
  · cases h; exact ⟨Tryz.f154, [], Tryz.func154, cf154⟩
  · cases h; exact ⟨Tryz.f155, [], Tryz.func155, cf155⟩
  · cases h; exact ⟨Tryz.f156, [], Tryz.func156, cf156⟩
  · cases h; exact ⟨Tryz.f157, [], Tryz.func157, cf157⟩
  · cases h; exact ⟨Tryz.f160, [], Tryz.func160, cf160⟩
  · cases h; exact ⟨Tryz.f161, [], Tryz.func161, cf161⟩
  · cases h; exact ⟨Tryz.f162, [], Tryz.func162, cf162⟩
  · cases h; exact ⟨Tryz.f163, [], Tryz.func163, cf163⟩
  · cases h; exact ⟨Tryz.f164, [], Tryz.func164, cf164⟩
  · cases h; exact ⟨Tryz.f165, [], Tryz.func165, cf165⟩
  · cases h; exact ⟨Tryz.f166, [], Tryz.func166, cf166⟩
  · cases h; exact ⟨Tryz.f167, [], Tryz.func167, cf167⟩
  · cases h; exact ⟨Tryz.f168, [], Tryz.func168, cf168⟩
  · cases h; exact ⟨Tryz.f177, [], Tryz.func177, cf177⟩
  · cases h; exact ⟨Tryz.f178, [], Tryz.func178, cf178⟩
  · cases h; exact ⟨Tryz.f179, [], Tryz.func179, cf179⟩
  · cases h; exact ⟨Tryz.f181, [], Tryz.func181, cf181⟩
  · cases h; exact ⟨Tryz.f182, [], Tryz.func182, cf182⟩
  · cases h; exact ⟨Tryz.f183, [], Tryz.func183, cf183⟩
  · cases h; exact ⟨Tryz.f184, [], Tryz.func184, cf184⟩
  · cases h; exact ⟨Tryz.f185, [], Tryz.func185, cf185⟩
  · cases h; exact ⟨Tryz.f186, [], Tryz.func186, cf186⟩
  · cases h; exact ⟨Tryz.f187, [], Tryz.func187, cf187⟩
  · cases h; exact ⟨Tryz.f190, [], Tryz.func190, cf190⟩
  · cases h; exact ⟨Tryz.f191, [], Tryz.func191, cf191⟩
  · cases h; exact ⟨Tryz.f192, [], Tryz.func192, cf192⟩
  · cases h; exact ⟨Tryz.f194, [], Tryz.func194, cf194⟩
  · cases h; exact ⟨Tryz.f195, [], Tryz.func195, cf195⟩
  · cases h; exact ⟨Tryz.f197, [], Tryz.func197, cf197⟩
  · cases h; exact ⟨Tryz.f198, [], Tryz.func198, cf198⟩
  · cases h; exact ⟨Tryz.f199, [], Tryz.func199, cf199⟩
  · cases h; exact ⟨Tryz.f200, [], Tryz.func200, cf200⟩
  · cases h; exact ⟨Tryz.f201, [], Tryz.func201, cf201⟩
  · cases h; exact ⟨Tryz.f202, [], Tryz.func202, cf202⟩
  · cases h; exact ⟨Tryz.f203, [], Tryz.func203, cf203⟩
  · cases h; exact ⟨Tryz.f233, [], Tryz.func233, cf233⟩
  · cases h; exact ⟨Tryz.f237, [], Tryz.func237, cf237⟩
  · cases h; exact ⟨Tryz.f238, [], Tryz.func238, cf238⟩
  · cases h; exact ⟨Tryz.f239, [], Tryz.func239, cf239⟩
  · cases h; exact ⟨Tryz.f240, [], Tryz.func240, cf240⟩
  · cases h; exact ⟨Tryz.f241, [], Tryz.func241, cf241⟩
  · cases h; exact ⟨Tryz.f242, [], Tryz.func242, cf242⟩
  · cases h; exact ⟨Tryz.f243, [], Tryz.func243, cf243⟩
  · cases h; exact ⟨Tryz.f244, [], Tryz.func244, cf244⟩
  · cases h; exact ⟨Tryz.f245, [], Tryz.func245, cf245⟩
  · cases h; exact ⟨Tryz.f251, [], Tryz.func251, cf251⟩
  · cases h; exact ⟨Tryz.f252, [], Tryz.func252, cf252⟩
  · cases h; exact ⟨Tryz.f253, [], Tryz.func253, cf253⟩
  · cases h; exact ⟨Tryz.f254, [], Tryz.func254, cf254⟩
  · cases h; exact ⟨Tryz.f258, [], Tryz.func258, cf258⟩
  · cases h; exact ⟨Tryz.f259, [], Tryz.func259, cf259⟩
  · cases h; exact ⟨Tryz.f260, [], Tryz.func260, cf260⟩
  · cases h; exact ⟨Tryz.f261, [], Tryz.func261, cf261⟩
  · cases h; exact ⟨Tryz.f262, [], Tryz.func262, cf262⟩
  · cases h; exact ⟨Tryz.f263, [], Tryz.func263, cf263⟩
  · cases h; exact ⟨Tryz.f264, [], Tryz.func264, cf264⟩
  · cases h; exact ⟨Tryz.f265, [], Tryz.func265, cf265⟩
  · cases h; exact ⟨Tryz.f266, [], Tryz.func266, cf266⟩
  · cases h; exact ⟨Tryz.f267, [], Tryz.func267, cf267⟩
  · cases h; exact ⟨Tryz.f268, [], Tryz.func268, cf268⟩
  · cases h; exact ⟨Tryz.f269, [], Tryz.func269, cf269⟩
  · cases h; exact ⟨Tryz.f270, [], Tryz.func270, cf270⟩
  · cases h; exact ⟨Tryz.f290, [], Tryz.func290, cf290⟩
  · cases h; exact ⟨Tryz.f295, [], Tryz.func295, cf295⟩
  · cases h; exact ⟨Tryz.f296, [], Tryz.func296, cf296⟩
  · cases h; exact ⟨Tryz.f297, [], Tryz.func297, cf297⟩
  · cases h; exact ⟨Tryz.f298, [], Tryz.func298, cf298⟩
  · cases h; exact ⟨Tryz.f299, [], Tryz.func299, cf299⟩
  · cases h; exact ⟨Tryz.f303, [], Tryz.func303, cf303⟩
  · cases h; exact ⟨Tryz.f304, [], Tryz.func304, cf304⟩
  · cases h; exact ⟨Tryz.f305, [], Tryz.func305, cf305⟩
  · cases h; exact ⟨Tryz.f308, [], Tryz.func308, cf308⟩
  · cases h; exact ⟨Tryz.f309, [], Tryz.func309, cf309⟩
  · cases h; exact ⟨Tryz.f310, [], Tryz.func310, cf310⟩
  · cases h; exact ⟨Tryz.f311, [], Tryz.func311, cf311⟩
  · cases h; exact ⟨Tryz.f312, [], Tryz.func312, cf312⟩
  · cases h; exact ⟨Tryz.f313, [], Tryz.func313, cf313⟩
  · cases h; exact ⟨Tryz.f332, [], Tryz.func332, cf332⟩
  · cases h; exact ⟨Tryz.f333, [], Tryz.func333, cf333⟩
  · cases h; exact ⟨Tryz.f337, [], Tryz.func337, cf337⟩
  · cases h; exact ⟨Tryz.f338, [], Tryz.func338, cf338⟩
  · cases h; exact ⟨Tryz.f339, [], Tryz.func339, cf339⟩
  · cases h; exact ⟨Tryz.f340, [], Tryz.func340, cf340⟩
  · cases h; exact ⟨Tryz.f341, [], Tryz.func341, cf341⟩
  · cases h; exact ⟨Tryz.f342, [], Tryz.func342, cf342⟩
  · cases h; exact ⟨Tryz.f343, [], Tryz.func343, cf343⟩
  · cases h; exact ⟨Tryz.f344, [], Tryz.func344, cf344⟩
  · cases h; exact ⟨Tryz.f345, [], Tryz.func345, cf345⟩
  · cases h; exact ⟨Tryz.f347, [], Tryz.func347, cf347⟩
  · cases h; exact ⟨Tryz.f348, [], Tryz.func348, cf348⟩
  · cases h; exact ⟨Tryz.f349, [], Tryz.func349, cf349⟩
  · cases h; exact ⟨Tryz.f350, [], Tryz.func350, cf350⟩
  · cases h; exact ⟨Tryz.f355, [], Tryz.func355, cf355⟩
  · cases h; exact ⟨Tryz.f356, [], Tryz.func356, cf356⟩
  · cases h; exact ⟨Tryz.f359, [], Tryz.func359, cf359⟩
  · cases h; exact ⟨Tryz.f360, [], Tryz.func360, cf360⟩
  · cases h; exact ⟨Tryz.f361, [], Tryz.func361, cf361⟩
  · cases h; exact ⟨Tryz.f362, [], Tryz.func362, cf362⟩
  · cases h; exact ⟨Tryz.f363, [], Tryz.func363, cf363⟩
  · cases h; exact ⟨Tryz.f364, [], Tryz.func364, cf364⟩
  · cases h; exact ⟨Tryz.f367, [], Tryz.func367, cf367⟩
  · cases h

theorem tabOk : TabOk Tryz.prog tab := by
  intro f fn h
  change (if f = 24 then none else code f) = some fn at h
  split at h
  · cases h
  · exact tabOkR f fn h

end Ve
end Go.Proofs.YtnociodpfmlglaaGreatDoor
