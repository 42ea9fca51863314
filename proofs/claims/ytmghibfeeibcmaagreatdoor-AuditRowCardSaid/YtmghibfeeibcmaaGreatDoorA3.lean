/- What the claim leans on. -/
import Derived.Test.YtmghibfeeibcmaaGreatDoorA2
import Derived.Test.YtmghibfeeibcmaaGreatDoorProg
section
namespace Go.Proofs
attribute [go_sem] Tryz.underlying0 Tryz.underlying1 Tryz.underlying2 Tryz.underlying3 Tryz.underlying4 Tryz.underlying5 Tryz.underlying6 Tryz.underlying7 Tryz.underlying8 Tryz.underlying9 Tryz.underlying10 Tryz.underlying11 Tryz.underlying12 Tryz.underlying13 Tryz.underlying14 Tryz.underlying15 Tryz.underlying16 Tryz.underlying17 Tryz.underlying18 Tryz.underlying19 Tryz.underlying20 Tryz.underlying21 Tryz.underlying22 Tryz.underlying23 Tryz.underlying24 Tryz.underlying25 Tryz.underlying26 Tryz.underlying27 Tryz.underlying28 Tryz.underlying29 Tryz.underlying30 Tryz.underlying31 Tryz.underlying32 Tryz.underlying33 Tryz.underlying34 Tryz.underlying35 Tryz.underlying36 Tryz.underlying37 Tryz.underlying38 Tryz.underlying39 Tryz.underlying40 Tryz.underlying41 Tryz.underlying42 Tryz.underlying43 Tryz.underlying44 Tryz.underlying45 Tryz.underlying46 Tryz.underlying47 Tryz.underlying48 Tryz.underlying49 Tryz.underlying50 Tryz.underlying51 Tryz.underlying52 Tryz.underlying53 Tryz.underlying54 Tryz.underlying55 Tryz.underlying56 Tryz.underlying57 Tryz.underlying58 Tryz.underlying59 Tryz.underlying60 Tryz.underlying61 Tryz.underlying62 Tryz.underlying63 Tryz.underlying64 Tryz.underlying65 Tryz.underlying66 Tryz.underlying67 Tryz.underlying68 Tryz.underlying69 Tryz.underlying70 Tryz.underlying71 Tryz.underlying72 Tryz.underlying73 Tryz.underlying74 Tryz.underlying75 Tryz.underlying76 Tryz.underlying77 Tryz.underlying78 Tryz.underlying79 Tryz.underlying80 Tryz.underlying81 Tryz.underlying82 Tryz.underlying83 Tryz.underlying84 Tryz.underlying85 Tryz.underlying86 Tryz.underlying87 Tryz.underlying88 Tryz.underlying89 Tryz.underlying90 Tryz.underlying91 Tryz.underlying92 Tryz.underlying93 Tryz.underlying94 Tryz.underlying95 Tryz.underlying96 Tryz.underlying97 Tryz.underlying98 Tryz.underlying99 Tryz.underlying100 Tryz.underlying101 Tryz.underlying102 Tryz.underlying103 Tryz.underlying104 Tryz.underlying105 Tryz.underlying106 Tryz.underlying107 Tryz.underlying108 Tryz.underlying109 Tryz.underlying110 Tryz.underlying111 Tryz.underlying112 Tryz.underlying113 Tryz.underlying114 Tryz.underlying115 Tryz.underlying116 Tryz.underlying117 Tryz.underlying118 Tryz.underlying119 Tryz.underlying120 Tryz.underlying121 Tryz.underlying122 Tryz.underlying123 Tryz.underlying124 Tryz.underlying125 Tryz.underlying126 Tryz.underlying127 Tryz.underlying128 Tryz.underlying129 Tryz.underlying130 Tryz.underlying131 Tryz.underlying132 Tryz.underlying133 Tryz.underlying134 Tryz.underlying135 Tryz.underlying136 Tryz.underlying137 Tryz.underlying138 Tryz.underlying139 Tryz.underlying140 Tryz.underlying141 Tryz.underlying142 Tryz.underlying143 Tryz.underlying144 Tryz.underlying145 Tryz.underlying146 Tryz.underlying147 Tryz.underlying148 Tryz.underlying149 Tryz.underlying150 Tryz.underlying151 Tryz.underlying152 Tryz.underlying153 Tryz.underlying154 Tryz.underlying155 Tryz.underlying156 Tryz.underlying157 Tryz.underlying158 Tryz.underlying159 Tryz.underlying160 Tryz.underlying161 Tryz.underlying162 Tryz.underlying163 Tryz.underlying164 Tryz.underlying165 Tryz.underlying166 Tryz.underlying167 Tryz.underlying168 Tryz.underlying169 Tryz.underlying170 Tryz.underlying171 Tryz.underlying172 Tryz.underlying173 Tryz.underlying174 Tryz.underlying175 Tryz.underlying176 Tryz.underlying177 Tryz.underlying178 Tryz.underlying179 Tryz.underlying180 Tryz.underlying181 Tryz.underlying182 Tryz.underlying183 Tryz.underlying184 Tryz.underlying185 Tryz.underlying186 Tryz.underlying187 Tryz.underlying188 Tryz.underlying189 Tryz.underlying190 Tryz.underlying191 Tryz.underlying192 Tryz.underlying193 Tryz.underlying194 Tryz.underlying195 Tryz.underlying196 Tryz.underlying197 Tryz.underlying198 Tryz.underlying199 Tryz.underlying200 Tryz.underlying201 Tryz.underlying202 Tryz.underlying203 Tryz.underlying204 Tryz.underlying205 Tryz.underlying206 Tryz.underlying207 Tryz.underlying208 Tryz.underlying209 Tryz.underlying210 Tryz.underlying211 Tryz.underlying212 Tryz.underlying213 Tryz.underlying214 Tryz.underlying215 Tryz.underlying216 Tryz.underlying217 Tryz.underlying218 Tryz.underlying219 Tryz.underlying220 Tryz.underlying221 Tryz.underlying222 Tryz.underlying223 Tryz.underlying224 Tryz.underlying225 Tryz.underlying226 Tryz.underlying227 Tryz.underlying228 Tryz.underlying229 Tryz.underlying230 Tryz.underlying231 Tryz.underlying232 Tryz.underlying233 Tryz.underlying234 Tryz.underlying235 Tryz.underlying236 Tryz.underlying237 Tryz.underlying238 Tryz.underlying239 Tryz.underlying240 Tryz.underlying241 Tryz.underlying242 Tryz.underlying243 Tryz.underlying244 Tryz.underlying245 Tryz.underlying246 Tryz.underlying247 Tryz.underlying248 Tryz.underlying249 Tryz.underlying250 Tryz.underlying251 Tryz.underlying252 Tryz.underlying253 Tryz.underlying254 Tryz.underlying255 Tryz.underlying256 Tryz.underlying257 Tryz.underlying258 Tryz.underlying259 Tryz.underlying260 Tryz.underlying261 Tryz.underlying262 Tryz.underlying263 Tryz.underlying264 Tryz.underlying265 Tryz.underlying266 Tryz.underlying267 Tryz.underlying268 Tryz.underlying269 Tryz.underlying270 Tryz.underlying271 Tryz.underlying272 Tryz.underlying273 Tryz.underlying274 Tryz.underlying275 Tryz.underlying276 Tryz.underlying277 Tryz.underlying278 Tryz.underlying279 Tryz.underlying280 Tryz.underlying281 Tryz.underlying282 Tryz.underlying283 Tryz.underlying284 Tryz.underlying285 Tryz.underlying286 Tryz.underlying287 Tryz.underlying288 Tryz.underlying289 Tryz.underlying290 Tryz.underlying291 Tryz.underlying292 Tryz.underlying293 Tryz.underlying294 Tryz.underlying295 Tryz.underlying296 Tryz.underlying297 Tryz.underlying298 Tryz.underlying299 Tryz.underlying300 Tryz.underlying301 Tryz.underlying302 Tryz.underlying303 Tryz.underlying304 Tryz.underlying305 Tryz.underlying306 Tryz.underlying307 Tryz.underlying308 Tryz.underlying309 Tryz.underlying310 Tryz.underlying311 Tryz.underlying312 Tryz.underlying313 Tryz.underlying314 Tryz.underlying315 Tryz.underlying316 Tryz.underlying317 Tryz.underlying318 Tryz.underlying319 Tryz.underlying320 Tryz.underlying321 Tryz.underlying322 Tryz.underlying323 Tryz.underlying324 Tryz.underlying325 Tryz.underlying326 Tryz.underlying327 Tryz.underlying328 Tryz.underlying329 Tryz.underlying330 Tryz.underlying331 Tryz.underlying332 Tryz.underlying333 Tryz.underlying334 Tryz.underlying335 Tryz.underlying336 Tryz.underlying337 Tryz.underlying338 Tryz.underlying339 Tryz.underlying340 Tryz.underlying341 Tryz.underlying342 Tryz.underlying343 Tryz.underlying344 Tryz.underlying345 Tryz.underlying346 Tryz.underlying347 Tryz.underlying348 Tryz.underlying349 Tryz.underlying350 Tryz.underlying351 Tryz.underlying352 Tryz.underlying353 Tryz.underlying354 Tryz.underlying355 Tryz.underlying356 Tryz.underlying357 Tryz.underlying358 Tryz.underlying359 Tryz.underlying360 Tryz.underlying361 Tryz.underlying362 Tryz.underlying363 Tryz.underlying364 Tryz.underlying365 Tryz.underlying366 Tryz.underlying367 Tryz.underlying368 Tryz.underlying369 Tryz.underlying370 Tryz.underlying371 Tryz.underlying372 Tryz.underlying373 Tryz.underlying374 Tryz.underlying375 Tryz.underlying376 Tryz.underlying377 Tryz.underlying378 Tryz.underlying379 Tryz.underlying380 Tryz.underlying381 Tryz.underlying382 Tryz.underlying383 Tryz.underlying384 Tryz.underlying385 Tryz.underlying386 Tryz.underlying387 Tryz.underlying388 Tryz.underlying389 Tryz.underlying390 Tryz.underlying391 Tryz.underlying392 Tryz.underlying393 Tryz.underlying394 Tryz.underlying395 Tryz.underlying396 Tryz.underlying397 Tryz.underlying398 Tryz.underlying399 Tryz.underlying400 Tryz.underlying401 Tryz.underlying402 Tryz.underlying403 Tryz.underlying404 Tryz.underlying405 Tryz.underlying406 Tryz.underlying407 Tryz.underlying408 Tryz.underlying409 Tryz.underlying410 Tryz.underlying411 Tryz.underlying412 Tryz.underlying413 Tryz.underlying414 Tryz.underlying415 Tryz.underlying416 Tryz.underlying417 Tryz.underlying418 Tryz.underlying419 Tryz.underlying420 Tryz.underlying421 Tryz.underlying422 Tryz.underlying423 Tryz.underlying424 Tryz.underlying425 Tryz.underlying426 Tryz.underlying427 Tryz.underlying428 Tryz.underlying429 Tryz.underlying430 Tryz.underlying431 Tryz.underlying432 Tryz.underlying433 Tryz.underlying434 Tryz.underlying435 Tryz.underlying436 Tryz.underlying437 Tryz.underlying438 Tryz.underlying439 Tryz.underlying440 Tryz.underlying441 Tryz.underlying442 Tryz.underlying443 Tryz.underlying444 Tryz.underlying445 Tryz.underlying446 Tryz.underlying447 Tryz.underlying448 Tryz.underlying449 Tryz.underlying450 Tryz.underlying451 Tryz.underlying452
attribute [go_sem] Tryz.sizeOf0 Tryz.sizeOf1 Tryz.sizeOf2 Tryz.sizeOf3 Tryz.sizeOf4 Tryz.sizeOf5 Tryz.sizeOf6 Tryz.sizeOf7 Tryz.sizeOf8 Tryz.sizeOf9 Tryz.sizeOf10 Tryz.sizeOf11 Tryz.sizeOf12 Tryz.sizeOf13 Tryz.sizeOf14 Tryz.sizeOf15 Tryz.sizeOf16 Tryz.sizeOf17 Tryz.sizeOf18 Tryz.sizeOf19 Tryz.sizeOf20 Tryz.sizeOf21 Tryz.sizeOf22 Tryz.sizeOf23 Tryz.sizeOf24 Tryz.sizeOf25 Tryz.sizeOf26 Tryz.sizeOf27 Tryz.sizeOf28 Tryz.sizeOf29 Tryz.sizeOf30 Tryz.sizeOf31 Tryz.sizeOf32 Tryz.sizeOf33 Tryz.sizeOf34 Tryz.sizeOf35 Tryz.sizeOf36 Tryz.sizeOf37 Tryz.sizeOf38 Tryz.sizeOf39 Tryz.sizeOf40 Tryz.sizeOf41 Tryz.sizeOf42 Tryz.sizeOf43 Tryz.sizeOf44 Tryz.sizeOf45 Tryz.sizeOf46 Tryz.sizeOf47 Tryz.sizeOf48 Tryz.sizeOf49 Tryz.sizeOf50 Tryz.sizeOf51 Tryz.sizeOf52 Tryz.sizeOf53 Tryz.sizeOf54 Tryz.sizeOf55 Tryz.sizeOf56 Tryz.sizeOf57 Tryz.sizeOf58 Tryz.sizeOf59 Tryz.sizeOf60 Tryz.sizeOf61 Tryz.sizeOf62 Tryz.sizeOf63 Tryz.sizeOf64 Tryz.sizeOf65 Tryz.sizeOf66 Tryz.sizeOf67 Tryz.sizeOf68 Tryz.sizeOf69 Tryz.sizeOf70 Tryz.sizeOf71 Tryz.sizeOf72 Tryz.sizeOf73 Tryz.sizeOf74 Tryz.sizeOf75 Tryz.sizeOf76 Tryz.sizeOf77 Tryz.sizeOf78 Tryz.sizeOf79 Tryz.sizeOf80 Tryz.sizeOf81 Tryz.sizeOf82 Tryz.sizeOf83 Tryz.sizeOf84 Tryz.sizeOf85 Tryz.sizeOf86 Tryz.sizeOf87 Tryz.sizeOf88 Tryz.sizeOf89 Tryz.sizeOf90 Tryz.sizeOf91 Tryz.sizeOf92 Tryz.sizeOf93 Tryz.sizeOf94 Tryz.sizeOf95 Tryz.sizeOf96 Tryz.sizeOf97 Tryz.sizeOf98 Tryz.sizeOf99 Tryz.sizeOf100 Tryz.sizeOf101 Tryz.sizeOf102 Tryz.sizeOf103 Tryz.sizeOf104 Tryz.sizeOf105 Tryz.sizeOf106 Tryz.sizeOf107 Tryz.sizeOf108 Tryz.sizeOf109 Tryz.sizeOf110 Tryz.sizeOf111 Tryz.sizeOf112 Tryz.sizeOf113 Tryz.sizeOf114 Tryz.sizeOf115 Tryz.sizeOf116 Tryz.sizeOf117 Tryz.sizeOf118 Tryz.sizeOf119 Tryz.sizeOf120 Tryz.sizeOf121 Tryz.sizeOf122 Tryz.sizeOf123 Tryz.sizeOf124 Tryz.sizeOf125 Tryz.sizeOf126 Tryz.sizeOf127 Tryz.sizeOf128 Tryz.sizeOf129 Tryz.sizeOf130 Tryz.sizeOf131 Tryz.sizeOf132 Tryz.sizeOf133 Tryz.sizeOf134 Tryz.sizeOf135 Tryz.sizeOf136 Tryz.sizeOf137 Tryz.sizeOf138 Tryz.sizeOf139 Tryz.sizeOf140 Tryz.sizeOf141 Tryz.sizeOf142 Tryz.sizeOf143 Tryz.sizeOf144 Tryz.sizeOf145 Tryz.sizeOf146 Tryz.sizeOf147 Tryz.sizeOf148 Tryz.sizeOf149 Tryz.sizeOf150 Tryz.sizeOf151 Tryz.sizeOf152 Tryz.sizeOf153 Tryz.sizeOf154 Tryz.sizeOf155 Tryz.sizeOf156 Tryz.sizeOf157 Tryz.sizeOf158 Tryz.sizeOf159 Tryz.sizeOf160 Tryz.sizeOf161 Tryz.sizeOf162 Tryz.sizeOf163 Tryz.sizeOf164 Tryz.sizeOf165 Tryz.sizeOf166 Tryz.sizeOf167 Tryz.sizeOf168 Tryz.sizeOf169 Tryz.sizeOf170 Tryz.sizeOf171 Tryz.sizeOf172 Tryz.sizeOf173 Tryz.sizeOf174 Tryz.sizeOf175 Tryz.sizeOf176 Tryz.sizeOf177 Tryz.sizeOf178 Tryz.sizeOf179 Tryz.sizeOf180 Tryz.sizeOf181 Tryz.sizeOf182 Tryz.sizeOf183 Tryz.sizeOf184 Tryz.sizeOf185 Tryz.sizeOf186 Tryz.sizeOf187 Tryz.sizeOf188 Tryz.sizeOf189 Tryz.sizeOf190 Tryz.sizeOf191 Tryz.sizeOf192 Tryz.sizeOf193 Tryz.sizeOf194 Tryz.sizeOf195 Tryz.sizeOf196 Tryz.sizeOf197 Tryz.sizeOf198 Tryz.sizeOf199 Tryz.sizeOf200 Tryz.sizeOf201 Tryz.sizeOf202 Tryz.sizeOf203 Tryz.sizeOf204 Tryz.sizeOf205 Tryz.sizeOf206 Tryz.sizeOf207 Tryz.sizeOf208 Tryz.sizeOf209 Tryz.sizeOf210 Tryz.sizeOf211 Tryz.sizeOf212 Tryz.sizeOf213 Tryz.sizeOf214 Tryz.sizeOf215 Tryz.sizeOf216 Tryz.sizeOf217 Tryz.sizeOf218 Tryz.sizeOf219 Tryz.sizeOf220 Tryz.sizeOf221 Tryz.sizeOf222 Tryz.sizeOf223 Tryz.sizeOf224 Tryz.sizeOf225 Tryz.sizeOf226 Tryz.sizeOf227 Tryz.sizeOf228 Tryz.sizeOf229 Tryz.sizeOf230 Tryz.sizeOf231 Tryz.sizeOf232 Tryz.sizeOf233 Tryz.sizeOf234 Tryz.sizeOf235 Tryz.sizeOf236 Tryz.sizeOf237 Tryz.sizeOf238 Tryz.sizeOf239 Tryz.sizeOf240 Tryz.sizeOf241 Tryz.sizeOf242 Tryz.sizeOf243 Tryz.sizeOf244 Tryz.sizeOf245 Tryz.sizeOf246 Tryz.sizeOf247 Tryz.sizeOf248 Tryz.sizeOf249 Tryz.sizeOf250 Tryz.sizeOf251 Tryz.sizeOf252 Tryz.sizeOf253 Tryz.sizeOf254 Tryz.sizeOf255 Tryz.sizeOf256 Tryz.sizeOf257 Tryz.sizeOf258 Tryz.sizeOf259 Tryz.sizeOf260 Tryz.sizeOf261 Tryz.sizeOf262 Tryz.sizeOf263 Tryz.sizeOf264 Tryz.sizeOf265 Tryz.sizeOf266 Tryz.sizeOf267 Tryz.sizeOf268 Tryz.sizeOf269 Tryz.sizeOf270 Tryz.sizeOf271 Tryz.sizeOf272 Tryz.sizeOf273 Tryz.sizeOf274 Tryz.sizeOf275 Tryz.sizeOf276 Tryz.sizeOf277 Tryz.sizeOf278 Tryz.sizeOf279 Tryz.sizeOf280 Tryz.sizeOf281 Tryz.sizeOf282 Tryz.sizeOf283 Tryz.sizeOf284 Tryz.sizeOf285 Tryz.sizeOf286 Tryz.sizeOf287 Tryz.sizeOf288 Tryz.sizeOf289 Tryz.sizeOf290 Tryz.sizeOf291 Tryz.sizeOf292 Tryz.sizeOf293 Tryz.sizeOf294 Tryz.sizeOf295 Tryz.sizeOf296 Tryz.sizeOf297 Tryz.sizeOf298 Tryz.sizeOf299 Tryz.sizeOf300 Tryz.sizeOf301 Tryz.sizeOf302 Tryz.sizeOf303 Tryz.sizeOf304 Tryz.sizeOf305 Tryz.sizeOf306 Tryz.sizeOf307 Tryz.sizeOf308 Tryz.sizeOf309 Tryz.sizeOf310 Tryz.sizeOf311 Tryz.sizeOf312 Tryz.sizeOf313 Tryz.sizeOf314 Tryz.sizeOf315 Tryz.sizeOf316 Tryz.sizeOf317 Tryz.sizeOf318 Tryz.sizeOf319 Tryz.sizeOf320 Tryz.sizeOf321 Tryz.sizeOf322 Tryz.sizeOf323 Tryz.sizeOf324 Tryz.sizeOf325 Tryz.sizeOf326 Tryz.sizeOf327 Tryz.sizeOf328 Tryz.sizeOf329 Tryz.sizeOf330 Tryz.sizeOf331 Tryz.sizeOf332 Tryz.sizeOf333 Tryz.sizeOf334 Tryz.sizeOf335 Tryz.sizeOf336 Tryz.sizeOf337 Tryz.sizeOf338 Tryz.sizeOf339 Tryz.sizeOf340 Tryz.sizeOf341 Tryz.sizeOf342 Tryz.sizeOf343 Tryz.sizeOf344 Tryz.sizeOf345 Tryz.sizeOf346 Tryz.sizeOf347 Tryz.sizeOf348 Tryz.sizeOf349 Tryz.sizeOf350 Tryz.sizeOf351 Tryz.sizeOf352 Tryz.sizeOf353 Tryz.sizeOf354 Tryz.sizeOf355 Tryz.sizeOf356 Tryz.sizeOf357 Tryz.sizeOf358 Tryz.sizeOf359 Tryz.sizeOf360 Tryz.sizeOf361 Tryz.sizeOf362 Tryz.sizeOf363 Tryz.sizeOf364 Tryz.sizeOf365 Tryz.sizeOf366 Tryz.sizeOf367 Tryz.sizeOf368 Tryz.sizeOf369 Tryz.sizeOf370 Tryz.sizeOf371 Tryz.sizeOf372 Tryz.sizeOf373 Tryz.sizeOf374 Tryz.sizeOf375 Tryz.sizeOf376 Tryz.sizeOf377 Tryz.sizeOf378 Tryz.sizeOf379 Tryz.sizeOf380 Tryz.sizeOf381 Tryz.sizeOf382 Tryz.sizeOf383 Tryz.sizeOf384 Tryz.sizeOf385 Tryz.sizeOf386 Tryz.sizeOf387 Tryz.sizeOf388 Tryz.sizeOf389 Tryz.sizeOf390 Tryz.sizeOf391 Tryz.sizeOf392 Tryz.sizeOf393 Tryz.sizeOf394 Tryz.sizeOf395 Tryz.sizeOf396 Tryz.sizeOf397 Tryz.sizeOf398 Tryz.sizeOf399 Tryz.sizeOf400 Tryz.sizeOf401 Tryz.sizeOf402 Tryz.sizeOf403 Tryz.sizeOf404 Tryz.sizeOf405 Tryz.sizeOf406 Tryz.sizeOf407 Tryz.sizeOf408 Tryz.sizeOf409 Tryz.sizeOf410 Tryz.sizeOf411 Tryz.sizeOf412 Tryz.sizeOf413 Tryz.sizeOf414 Tryz.sizeOf415 Tryz.sizeOf416 Tryz.sizeOf417 Tryz.sizeOf418 Tryz.sizeOf419 Tryz.sizeOf420 Tryz.sizeOf421 Tryz.sizeOf422 Tryz.sizeOf423 Tryz.sizeOf424 Tryz.sizeOf425 Tryz.sizeOf426 Tryz.sizeOf427 Tryz.sizeOf428 Tryz.sizeOf429 Tryz.sizeOf430 Tryz.sizeOf431 Tryz.sizeOf432 Tryz.sizeOf433 Tryz.sizeOf434 Tryz.sizeOf435 Tryz.sizeOf436 Tryz.sizeOf437 Tryz.sizeOf438 Tryz.sizeOf439 Tryz.sizeOf440 Tryz.sizeOf441 Tryz.sizeOf442 Tryz.sizeOf443 Tryz.sizeOf444 Tryz.sizeOf445 Tryz.sizeOf446 Tryz.sizeOf447 Tryz.sizeOf448 Tryz.sizeOf449 Tryz.sizeOf450 Tryz.sizeOf451 Tryz.sizeOf452
attribute [go_sem] Tryz.isAgg0 Tryz.isAgg1 Tryz.isAgg2 Tryz.isAgg3 Tryz.isAgg4 Tryz.isAgg5 Tryz.isAgg6 Tryz.isAgg7 Tryz.isAgg8 Tryz.isAgg9 Tryz.isAgg10 Tryz.isAgg11 Tryz.isAgg12 Tryz.isAgg13 Tryz.isAgg14 Tryz.isAgg15 Tryz.isAgg16 Tryz.isAgg17 Tryz.isAgg18 Tryz.isAgg19 Tryz.isAgg20 Tryz.isAgg21 Tryz.isAgg22 Tryz.isAgg23 Tryz.isAgg24 Tryz.isAgg25 Tryz.isAgg26 Tryz.isAgg27 Tryz.isAgg28 Tryz.isAgg29 Tryz.isAgg30 Tryz.isAgg31 Tryz.isAgg32 Tryz.isAgg33 Tryz.isAgg34 Tryz.isAgg35 Tryz.isAgg36 Tryz.isAgg37 Tryz.isAgg38 Tryz.isAgg39 Tryz.isAgg40 Tryz.isAgg41 Tryz.isAgg42 Tryz.isAgg43 Tryz.isAgg44 Tryz.isAgg45 Tryz.isAgg46 Tryz.isAgg47 Tryz.isAgg48 Tryz.isAgg49 Tryz.isAgg50 Tryz.isAgg51 Tryz.isAgg52 Tryz.isAgg53 Tryz.isAgg54 Tryz.isAgg55 Tryz.isAgg56 Tryz.isAgg57 Tryz.isAgg58 Tryz.isAgg59 Tryz.isAgg60 Tryz.isAgg61 Tryz.isAgg62 Tryz.isAgg63 Tryz.isAgg64 Tryz.isAgg65 Tryz.isAgg66 Tryz.isAgg67 Tryz.isAgg68 Tryz.isAgg69 Tryz.isAgg70 Tryz.isAgg71 Tryz.isAgg72 Tryz.isAgg73 Tryz.isAgg74 Tryz.isAgg75 Tryz.isAgg76 Tryz.isAgg77 Tryz.isAgg78 Tryz.isAgg79 Tryz.isAgg80 Tryz.isAgg81 Tryz.isAgg82 Tryz.isAgg83 Tryz.isAgg84 Tryz.isAgg85 Tryz.isAgg86 Tryz.isAgg87 Tryz.isAgg88 Tryz.isAgg89 Tryz.isAgg90 Tryz.isAgg91 Tryz.isAgg92 Tryz.isAgg93 Tryz.isAgg94 Tryz.isAgg95 Tryz.isAgg96 Tryz.isAgg97 Tryz.isAgg98 Tryz.isAgg99 Tryz.isAgg100 Tryz.isAgg101 Tryz.isAgg102 Tryz.isAgg103 Tryz.isAgg104 Tryz.isAgg105 Tryz.isAgg106 Tryz.isAgg107 Tryz.isAgg108 Tryz.isAgg109 Tryz.isAgg110 Tryz.isAgg111 Tryz.isAgg112 Tryz.isAgg113 Tryz.isAgg114 Tryz.isAgg115 Tryz.isAgg116 Tryz.isAgg117 Tryz.isAgg118 Tryz.isAgg119 Tryz.isAgg120 Tryz.isAgg121 Tryz.isAgg122 Tryz.isAgg123 Tryz.isAgg124 Tryz.isAgg125 Tryz.isAgg126 Tryz.isAgg127 Tryz.isAgg128 Tryz.isAgg129 Tryz.isAgg130 Tryz.isAgg131 Tryz.isAgg132 Tryz.isAgg133 Tryz.isAgg134 Tryz.isAgg135 Tryz.isAgg136 Tryz.isAgg137 Tryz.isAgg138 Tryz.isAgg139 Tryz.isAgg140 Tryz.isAgg141 Tryz.isAgg142 Tryz.isAgg143 Tryz.isAgg144 Tryz.isAgg145 Tryz.isAgg146 Tryz.isAgg147 Tryz.isAgg148 Tryz.isAgg149 Tryz.isAgg150 Tryz.isAgg151 Tryz.isAgg152 Tryz.isAgg153 Tryz.isAgg154 Tryz.isAgg155 Tryz.isAgg156 Tryz.isAgg157 Tryz.isAgg158 Tryz.isAgg159 Tryz.isAgg160 Tryz.isAgg161 Tryz.isAgg162 Tryz.isAgg163 Tryz.isAgg164 Tryz.isAgg165 Tryz.isAgg166 Tryz.isAgg167 Tryz.isAgg168 Tryz.isAgg169 Tryz.isAgg170 Tryz.isAgg171 Tryz.isAgg172 Tryz.isAgg173 Tryz.isAgg174 Tryz.isAgg175 Tryz.isAgg176 Tryz.isAgg177 Tryz.isAgg178 Tryz.isAgg179 Tryz.isAgg180 Tryz.isAgg181 Tryz.isAgg182 Tryz.isAgg183 Tryz.isAgg184 Tryz.isAgg185 Tryz.isAgg186 Tryz.isAgg187 Tryz.isAgg188 Tryz.isAgg189 Tryz.isAgg190 Tryz.isAgg191 Tryz.isAgg192 Tryz.isAgg193 Tryz.isAgg194 Tryz.isAgg195 Tryz.isAgg196 Tryz.isAgg197 Tryz.isAgg198 Tryz.isAgg199 Tryz.isAgg200 Tryz.isAgg201 Tryz.isAgg202 Tryz.isAgg203 Tryz.isAgg204 Tryz.isAgg205 Tryz.isAgg206 Tryz.isAgg207 Tryz.isAgg208 Tryz.isAgg209 Tryz.isAgg210 Tryz.isAgg211 Tryz.isAgg212 Tryz.isAgg213 Tryz.isAgg214 Tryz.isAgg215 Tryz.isAgg216 Tryz.isAgg217 Tryz.isAgg218 Tryz.isAgg219 Tryz.isAgg220 Tryz.isAgg221 Tryz.isAgg222 Tryz.isAgg223 Tryz.isAgg224 Tryz.isAgg225 Tryz.isAgg226 Tryz.isAgg227 Tryz.isAgg228 Tryz.isAgg229 Tryz.isAgg230 Tryz.isAgg231 Tryz.isAgg232 Tryz.isAgg233 Tryz.isAgg234 Tryz.isAgg235 Tryz.isAgg236 Tryz.isAgg237 Tryz.isAgg238 Tryz.isAgg239 Tryz.isAgg240 Tryz.isAgg241 Tryz.isAgg242 Tryz.isAgg243 Tryz.isAgg244 Tryz.isAgg245 Tryz.isAgg246 Tryz.isAgg247 Tryz.isAgg248 Tryz.isAgg249 Tryz.isAgg250 Tryz.isAgg251 Tryz.isAgg252 Tryz.isAgg253 Tryz.isAgg254 Tryz.isAgg255 Tryz.isAgg256 Tryz.isAgg257 Tryz.isAgg258 Tryz.isAgg259 Tryz.isAgg260 Tryz.isAgg261 Tryz.isAgg262 Tryz.isAgg263 Tryz.isAgg264 Tryz.isAgg265 Tryz.isAgg266 Tryz.isAgg267 Tryz.isAgg268 Tryz.isAgg269 Tryz.isAgg270 Tryz.isAgg271 Tryz.isAgg272 Tryz.isAgg273 Tryz.isAgg274 Tryz.isAgg275 Tryz.isAgg276 Tryz.isAgg277 Tryz.isAgg278 Tryz.isAgg279 Tryz.isAgg280 Tryz.isAgg281 Tryz.isAgg282 Tryz.isAgg283 Tryz.isAgg284 Tryz.isAgg285 Tryz.isAgg286 Tryz.isAgg287 Tryz.isAgg288 Tryz.isAgg289 Tryz.isAgg290 Tryz.isAgg291 Tryz.isAgg292 Tryz.isAgg293 Tryz.isAgg294 Tryz.isAgg295 Tryz.isAgg296 Tryz.isAgg297 Tryz.isAgg298 Tryz.isAgg299 Tryz.isAgg300 Tryz.isAgg301 Tryz.isAgg302 Tryz.isAgg303 Tryz.isAgg304 Tryz.isAgg305 Tryz.isAgg306 Tryz.isAgg307 Tryz.isAgg308 Tryz.isAgg309 Tryz.isAgg310 Tryz.isAgg311 Tryz.isAgg312 Tryz.isAgg313 Tryz.isAgg314 Tryz.isAgg315 Tryz.isAgg316 Tryz.isAgg317 Tryz.isAgg318 Tryz.isAgg319 Tryz.isAgg320 Tryz.isAgg321 Tryz.isAgg322 Tryz.isAgg323 Tryz.isAgg324 Tryz.isAgg325 Tryz.isAgg326 Tryz.isAgg327 Tryz.isAgg328 Tryz.isAgg329 Tryz.isAgg330 Tryz.isAgg331 Tryz.isAgg332 Tryz.isAgg333 Tryz.isAgg334 Tryz.isAgg335 Tryz.isAgg336 Tryz.isAgg337 Tryz.isAgg338 Tryz.isAgg339 Tryz.isAgg340 Tryz.isAgg341 Tryz.isAgg342 Tryz.isAgg343 Tryz.isAgg344 Tryz.isAgg345 Tryz.isAgg346 Tryz.isAgg347 Tryz.isAgg348 Tryz.isAgg349 Tryz.isAgg350 Tryz.isAgg351 Tryz.isAgg352 Tryz.isAgg353 Tryz.isAgg354 Tryz.isAgg355 Tryz.isAgg356 Tryz.isAgg357 Tryz.isAgg358 Tryz.isAgg359 Tryz.isAgg360 Tryz.isAgg361 Tryz.isAgg362 Tryz.isAgg363 Tryz.isAgg364 Tryz.isAgg365 Tryz.isAgg366 Tryz.isAgg367 Tryz.isAgg368 Tryz.isAgg369 Tryz.isAgg370 Tryz.isAgg371 Tryz.isAgg372 Tryz.isAgg373 Tryz.isAgg374 Tryz.isAgg375 Tryz.isAgg376 Tryz.isAgg377 Tryz.isAgg378 Tryz.isAgg379 Tryz.isAgg380 Tryz.isAgg381 Tryz.isAgg382 Tryz.isAgg383 Tryz.isAgg384 Tryz.isAgg385 Tryz.isAgg386 Tryz.isAgg387 Tryz.isAgg388 Tryz.isAgg389 Tryz.isAgg390 Tryz.isAgg391 Tryz.isAgg392 Tryz.isAgg393 Tryz.isAgg394 Tryz.isAgg395 Tryz.isAgg396 Tryz.isAgg397 Tryz.isAgg398 Tryz.isAgg399 Tryz.isAgg400 Tryz.isAgg401 Tryz.isAgg402 Tryz.isAgg403 Tryz.isAgg404 Tryz.isAgg405 Tryz.isAgg406 Tryz.isAgg407 Tryz.isAgg408 Tryz.isAgg409 Tryz.isAgg410 Tryz.isAgg411 Tryz.isAgg412 Tryz.isAgg413 Tryz.isAgg414 Tryz.isAgg415 Tryz.isAgg416 Tryz.isAgg417 Tryz.isAgg418 Tryz.isAgg419 Tryz.isAgg420 Tryz.isAgg421 Tryz.isAgg422 Tryz.isAgg423 Tryz.isAgg424 Tryz.isAgg425 Tryz.isAgg426 Tryz.isAgg427 Tryz.isAgg428 Tryz.isAgg429 Tryz.isAgg430 Tryz.isAgg431 Tryz.isAgg432 Tryz.isAgg433 Tryz.isAgg434 Tryz.isAgg435 Tryz.isAgg436 Tryz.isAgg437 Tryz.isAgg438 Tryz.isAgg439 Tryz.isAgg440 Tryz.isAgg441 Tryz.isAgg442 Tryz.isAgg443 Tryz.isAgg444 Tryz.isAgg445 Tryz.isAgg446 Tryz.isAgg447 Tryz.isAgg448 Tryz.isAgg449 Tryz.isAgg450 Tryz.isAgg451 Tryz.isAgg452
attribute [go_sem] Tryz.zeroValue0 Tryz.zeroValue1 Tryz.zeroValue2 Tryz.zeroValue3 Tryz.zeroValue4 Tryz.zeroValue5 Tryz.zeroValue6 Tryz.zeroValue7 Tryz.zeroValue8 Tryz.zeroValue9 Tryz.zeroValue10 Tryz.zeroValue11 Tryz.zeroValue12 Tryz.zeroValue13 Tryz.zeroValue14 Tryz.zeroValue15 Tryz.zeroValue16 Tryz.zeroValue17 Tryz.zeroValue18 Tryz.zeroValue19 Tryz.zeroValue20 Tryz.zeroValue21 Tryz.zeroValue22 Tryz.zeroValue23 Tryz.zeroValue24 Tryz.zeroValue25 Tryz.zeroValue26 Tryz.zeroValue27 Tryz.zeroValue28 Tryz.zeroValue29 Tryz.zeroValue30 Tryz.zeroValue31 Tryz.zeroValue32 Tryz.zeroValue33 Tryz.zeroValue34 Tryz.zeroValue35 Tryz.zeroValue36 Tryz.zeroValue37 Tryz.zeroValue38 Tryz.zeroValue39 Tryz.zeroValue40 Tryz.zeroValue41 Tryz.zeroValue42 Tryz.zeroValue43 Tryz.zeroValue44 Tryz.zeroValue45 Tryz.zeroValue46 Tryz.zeroValue47 Tryz.zeroValue48 Tryz.zeroValue49 Tryz.zeroValue50 Tryz.zeroValue51 Tryz.zeroValue52 Tryz.zeroValue53 Tryz.zeroValue54 Tryz.zeroValue55 Tryz.zeroValue56 Tryz.zeroValue57 Tryz.zeroValue58 Tryz.zeroValue59 Tryz.zeroValue60 Tryz.zeroValue61 Tryz.zeroValue62 Tryz.zeroValue63 Tryz.zeroValue64 Tryz.zeroValue65 Tryz.zeroValue66 Tryz.zeroValue67 Tryz.zeroValue68 Tryz.zeroValue69 Tryz.zeroValue70 Tryz.zeroValue71 Tryz.zeroValue72 Tryz.zeroValue73 Tryz.zeroValue74 Tryz.zeroValue75 Tryz.zeroValue76 Tryz.zeroValue77 Tryz.zeroValue78 Tryz.zeroValue79 Tryz.zeroValue80 Tryz.zeroValue81 Tryz.zeroValue82 Tryz.zeroValue83 Tryz.zeroValue84 Tryz.zeroValue85 Tryz.zeroValue86 Tryz.zeroValue87 Tryz.zeroValue88 Tryz.zeroValue89 Tryz.zeroValue90 Tryz.zeroValue91 Tryz.zeroValue92 Tryz.zeroValue93 Tryz.zeroValue94 Tryz.zeroValue95 Tryz.zeroValue96 Tryz.zeroValue97 Tryz.zeroValue98 Tryz.zeroValue99 Tryz.zeroValue100 Tryz.zeroValue101 Tryz.zeroValue102 Tryz.zeroValue103 Tryz.zeroValue104 Tryz.zeroValue105 Tryz.zeroValue106 Tryz.zeroValue107 Tryz.zeroValue108 Tryz.zeroValue109 Tryz.zeroValue110 Tryz.zeroValue111 Tryz.zeroValue112 Tryz.zeroValue113 Tryz.zeroValue114 Tryz.zeroValue115 Tryz.zeroValue116 Tryz.zeroValue117 Tryz.zeroValue118 Tryz.zeroValue119 Tryz.zeroValue120 Tryz.zeroValue121 Tryz.zeroValue122 Tryz.zeroValue123 Tryz.zeroValue124 Tryz.zeroValue125 Tryz.zeroValue126 Tryz.zeroValue127 Tryz.zeroValue128 Tryz.zeroValue129 Tryz.zeroValue130 Tryz.zeroValue131 Tryz.zeroValue132 Tryz.zeroValue133 Tryz.zeroValue134 Tryz.zeroValue135 Tryz.zeroValue136 Tryz.zeroValue137 Tryz.zeroValue138 Tryz.zeroValue139 Tryz.zeroValue140 Tryz.zeroValue141 Tryz.zeroValue142 Tryz.zeroValue143 Tryz.zeroValue144 Tryz.zeroValue145 Tryz.zeroValue146 Tryz.zeroValue147 Tryz.zeroValue148 Tryz.zeroValue149 Tryz.zeroValue150 Tryz.zeroValue151 Tryz.zeroValue152 Tryz.zeroValue153 Tryz.zeroValue154 Tryz.zeroValue155 Tryz.zeroValue156 Tryz.zeroValue157 Tryz.zeroValue158 Tryz.zeroValue159 Tryz.zeroValue160 Tryz.zeroValue161 Tryz.zeroValue162 Tryz.zeroValue163 Tryz.zeroValue164 Tryz.zeroValue165 Tryz.zeroValue166 Tryz.zeroValue167 Tryz.zeroValue168 Tryz.zeroValue169 Tryz.zeroValue170 Tryz.zeroValue171 Tryz.zeroValue172 Tryz.zeroValue173 Tryz.zeroValue174 Tryz.zeroValue175 Tryz.zeroValue176 Tryz.zeroValue177 Tryz.zeroValue178 Tryz.zeroValue179 Tryz.zeroValue180 Tryz.zeroValue181 Tryz.zeroValue182 Tryz.zeroValue183 Tryz.zeroValue184 Tryz.zeroValue185 Tryz.zeroValue186 Tryz.zeroValue187 Tryz.zeroValue188 Tryz.zeroValue189 Tryz.zeroValue190 Tryz.zeroValue191 Tryz.zeroValue192 Tryz.zeroValue193 Tryz.zeroValue194 Tryz.zeroValue195 Tryz.zeroValue196 Tryz.zeroValue197 Tryz.zeroValue198 Tryz.zeroValue199 Tryz.zeroValue200 Tryz.zeroValue201 Tryz.zeroValue202 Tryz.zeroValue203 Tryz.zeroValue204 Tryz.zeroValue205 Tryz.zeroValue206 Tryz.zeroValue207 Tryz.zeroValue208 Tryz.zeroValue209 Tryz.zeroValue210 Tryz.zeroValue211 Tryz.zeroValue212 Tryz.zeroValue213 Tryz.zeroValue214 Tryz.zeroValue215 Tryz.zeroValue216 Tryz.zeroValue217 Tryz.zeroValue218 Tryz.zeroValue219 Tryz.zeroValue220 Tryz.zeroValue221 Tryz.zeroValue222 Tryz.zeroValue223 Tryz.zeroValue224 Tryz.zeroValue225 Tryz.zeroValue226 Tryz.zeroValue227 Tryz.zeroValue228 Tryz.zeroValue229 Tryz.zeroValue230 Tryz.zeroValue231 Tryz.zeroValue232 Tryz.zeroValue233 Tryz.zeroValue234 Tryz.zeroValue235 Tryz.zeroValue236 Tryz.zeroValue237 Tryz.zeroValue238 Tryz.zeroValue239 Tryz.zeroValue240 Tryz.zeroValue241 Tryz.zeroValue242 Tryz.zeroValue243 Tryz.zeroValue244 Tryz.zeroValue245 Tryz.zeroValue246 Tryz.zeroValue247 Tryz.zeroValue248 Tryz.zeroValue249 Tryz.zeroValue250 Tryz.zeroValue251 Tryz.zeroValue252 Tryz.zeroValue253 Tryz.zeroValue254 Tryz.zeroValue255 Tryz.zeroValue256 Tryz.zeroValue257 Tryz.zeroValue258 Tryz.zeroValue259 Tryz.zeroValue260 Tryz.zeroValue261 Tryz.zeroValue262 Tryz.zeroValue263 Tryz.zeroValue264 Tryz.zeroValue265 Tryz.zeroValue266 Tryz.zeroValue267 Tryz.zeroValue268 Tryz.zeroValue269 Tryz.zeroValue270 Tryz.zeroValue271 Tryz.zeroValue272 Tryz.zeroValue273 Tryz.zeroValue274 Tryz.zeroValue275 Tryz.zeroValue276 Tryz.zeroValue277 Tryz.zeroValue278 Tryz.zeroValue279 Tryz.zeroValue280 Tryz.zeroValue281 Tryz.zeroValue282 Tryz.zeroValue283 Tryz.zeroValue284 Tryz.zeroValue285 Tryz.zeroValue286 Tryz.zeroValue287 Tryz.zeroValue288 Tryz.zeroValue289 Tryz.zeroValue290 Tryz.zeroValue291 Tryz.zeroValue292 Tryz.zeroValue293 Tryz.zeroValue294 Tryz.zeroValue295 Tryz.zeroValue296 Tryz.zeroValue297 Tryz.zeroValue298 Tryz.zeroValue299 Tryz.zeroValue300 Tryz.zeroValue301 Tryz.zeroValue302 Tryz.zeroValue303 Tryz.zeroValue304 Tryz.zeroValue305 Tryz.zeroValue306 Tryz.zeroValue307 Tryz.zeroValue308 Tryz.zeroValue309 Tryz.zeroValue310 Tryz.zeroValue311 Tryz.zeroValue312 Tryz.zeroValue313 Tryz.zeroValue314 Tryz.zeroValue315 Tryz.zeroValue316 Tryz.zeroValue317 Tryz.zeroValue318 Tryz.zeroValue319 Tryz.zeroValue320 Tryz.zeroValue321 Tryz.zeroValue322 Tryz.zeroValue323 Tryz.zeroValue324 Tryz.zeroValue325 Tryz.zeroValue326 Tryz.zeroValue327 Tryz.zeroValue328 Tryz.zeroValue329 Tryz.zeroValue330 Tryz.zeroValue331 Tryz.zeroValue332 Tryz.zeroValue333 Tryz.zeroValue334 Tryz.zeroValue335 Tryz.zeroValue336 Tryz.zeroValue337 Tryz.zeroValue338 Tryz.zeroValue339 Tryz.zeroValue340 Tryz.zeroValue341 Tryz.zeroValue342 Tryz.zeroValue343 Tryz.zeroValue344 Tryz.zeroValue345 Tryz.zeroValue346 Tryz.zeroValue347 Tryz.zeroValue348 Tryz.zeroValue349 Tryz.zeroValue350 Tryz.zeroValue351 Tryz.zeroValue352 Tryz.zeroValue353 Tryz.zeroValue354 Tryz.zeroValue355 Tryz.zeroValue356 Tryz.zeroValue357 Tryz.zeroValue358 Tryz.zeroValue359 Tryz.zeroValue360 Tryz.zeroValue361 Tryz.zeroValue362 Tryz.zeroValue363 Tryz.zeroValue364 Tryz.zeroValue365 Tryz.zeroValue366 Tryz.zeroValue367 Tryz.zeroValue368 Tryz.zeroValue369 Tryz.zeroValue370 Tryz.zeroValue371 Tryz.zeroValue372 Tryz.zeroValue373 Tryz.zeroValue374 Tryz.zeroValue375 Tryz.zeroValue376 Tryz.zeroValue377 Tryz.zeroValue378 Tryz.zeroValue379 Tryz.zeroValue380 Tryz.zeroValue381 Tryz.zeroValue382 Tryz.zeroValue383 Tryz.zeroValue384 Tryz.zeroValue385 Tryz.zeroValue386 Tryz.zeroValue387 Tryz.zeroValue388 Tryz.zeroValue389 Tryz.zeroValue390 Tryz.zeroValue391 Tryz.zeroValue392 Tryz.zeroValue393 Tryz.zeroValue394 Tryz.zeroValue395 Tryz.zeroValue396 Tryz.zeroValue397 Tryz.zeroValue398 Tryz.zeroValue399 Tryz.zeroValue400 Tryz.zeroValue401 Tryz.zeroValue402 Tryz.zeroValue403 Tryz.zeroValue404 Tryz.zeroValue405 Tryz.zeroValue406 Tryz.zeroValue407 Tryz.zeroValue408 Tryz.zeroValue409 Tryz.zeroValue410 Tryz.zeroValue411 Tryz.zeroValue412 Tryz.zeroValue413 Tryz.zeroValue414 Tryz.zeroValue415 Tryz.zeroValue416 Tryz.zeroValue417 Tryz.zeroValue418 Tryz.zeroValue419 Tryz.zeroValue420 Tryz.zeroValue421 Tryz.zeroValue422 Tryz.zeroValue423 Tryz.zeroValue424 Tryz.zeroValue425 Tryz.zeroValue426 Tryz.zeroValue427 Tryz.zeroValue428 Tryz.zeroValue429 Tryz.zeroValue430 Tryz.zeroValue431 Tryz.zeroValue432 Tryz.zeroValue433 Tryz.zeroValue434 Tryz.zeroValue435 Tryz.zeroValue436 Tryz.zeroValue437 Tryz.zeroValue438 Tryz.zeroValue439 Tryz.zeroValue440 Tryz.zeroValue441 Tryz.zeroValue442 Tryz.zeroValue443 Tryz.zeroValue444 Tryz.zeroValue445 Tryz.zeroValue446 Tryz.zeroValue447 Tryz.zeroValue448 Tryz.zeroValue449 Tryz.zeroValue450 Tryz.zeroValue451 Tryz.zeroValue452
attribute [go_sem] Tryz.typeInfo0 Tryz.typeInfo1 Tryz.typeInfo2 Tryz.typeInfo3 Tryz.typeInfo4 Tryz.typeInfo5 Tryz.typeInfo6 Tryz.typeInfo7 Tryz.typeInfo8 Tryz.typeInfo9 Tryz.typeInfo10 Tryz.typeInfo11 Tryz.typeInfo12 Tryz.typeInfo13 Tryz.typeInfo14 Tryz.typeInfo15 Tryz.typeInfo16 Tryz.typeInfo17 Tryz.typeInfo18 Tryz.typeInfo19 Tryz.typeInfo20 Tryz.typeInfo21 Tryz.typeInfo22 Tryz.typeInfo23 Tryz.typeInfo24 Tryz.typeInfo25 Tryz.typeInfo26 Tryz.typeInfo27 Tryz.typeInfo28 Tryz.typeInfo29 Tryz.typeInfo30 Tryz.typeInfo31 Tryz.typeInfo32 Tryz.typeInfo33 Tryz.typeInfo34 Tryz.typeInfo35 Tryz.typeInfo36 Tryz.typeInfo37 Tryz.typeInfo38 Tryz.typeInfo39 Tryz.typeInfo40 Tryz.typeInfo41 Tryz.typeInfo42 Tryz.typeInfo43 Tryz.typeInfo44 Tryz.typeInfo45 Tryz.typeInfo46 Tryz.typeInfo47 Tryz.typeInfo48 Tryz.typeInfo49 Tryz.typeInfo50 Tryz.typeInfo51 Tryz.typeInfo52 Tryz.typeInfo53 Tryz.typeInfo54 Tryz.typeInfo55 Tryz.typeInfo56 Tryz.typeInfo57 Tryz.typeInfo58 Tryz.typeInfo59 Tryz.typeInfo60 Tryz.typeInfo61 Tryz.typeInfo62 Tryz.typeInfo63 Tryz.typeInfo64 Tryz.typeInfo65 Tryz.typeInfo66 Tryz.typeInfo67 Tryz.typeInfo68 Tryz.typeInfo69 Tryz.typeInfo70 Tryz.typeInfo71 Tryz.typeInfo72 Tryz.typeInfo73 Tryz.typeInfo74 Tryz.typeInfo75 Tryz.typeInfo76 Tryz.typeInfo77 Tryz.typeInfo78 Tryz.typeInfo79 Tryz.typeInfo80 Tryz.typeInfo81 Tryz.typeInfo82 Tryz.typeInfo83 Tryz.typeInfo84 Tryz.typeInfo85 Tryz.typeInfo86 Tryz.typeInfo87 Tryz.typeInfo88 Tryz.typeInfo89 Tryz.typeInfo90 Tryz.typeInfo91 Tryz.typeInfo92 Tryz.typeInfo93 Tryz.typeInfo94 Tryz.typeInfo95 Tryz.typeInfo96 Tryz.typeInfo97 Tryz.typeInfo98 Tryz.typeInfo99 Tryz.typeInfo100 Tryz.typeInfo101 Tryz.typeInfo102 Tryz.typeInfo103 Tryz.typeInfo104 Tryz.typeInfo105 Tryz.typeInfo106 Tryz.typeInfo107 Tryz.typeInfo108 Tryz.typeInfo109 Tryz.typeInfo110 Tryz.typeInfo111 Tryz.typeInfo112 Tryz.typeInfo113 Tryz.typeInfo114 Tryz.typeInfo115 Tryz.typeInfo116 Tryz.typeInfo117 Tryz.typeInfo118 Tryz.typeInfo119 Tryz.typeInfo120 Tryz.typeInfo121 Tryz.typeInfo122 Tryz.typeInfo123 Tryz.typeInfo124 Tryz.typeInfo125 Tryz.typeInfo126 Tryz.typeInfo127 Tryz.typeInfo128 Tryz.typeInfo129 Tryz.typeInfo130 Tryz.typeInfo131 Tryz.typeInfo132 Tryz.typeInfo133 Tryz.typeInfo134 Tryz.typeInfo135 Tryz.typeInfo136 Tryz.typeInfo137 Tryz.typeInfo138 Tryz.typeInfo139 Tryz.typeInfo140 Tryz.typeInfo141 Tryz.typeInfo142 Tryz.typeInfo143 Tryz.typeInfo144 Tryz.typeInfo145 Tryz.typeInfo146 Tryz.typeInfo147 Tryz.typeInfo148 Tryz.typeInfo149 Tryz.typeInfo150 Tryz.typeInfo151 Tryz.typeInfo152 Tryz.typeInfo153 Tryz.typeInfo154 Tryz.typeInfo155 Tryz.typeInfo156 Tryz.typeInfo157 Tryz.typeInfo158 Tryz.typeInfo159 Tryz.typeInfo160 Tryz.typeInfo161 Tryz.typeInfo162 Tryz.typeInfo163 Tryz.typeInfo164 Tryz.typeInfo165 Tryz.typeInfo166 Tryz.typeInfo167 Tryz.typeInfo168 Tryz.typeInfo169 Tryz.typeInfo170 Tryz.typeInfo171 Tryz.typeInfo172 Tryz.typeInfo173 Tryz.typeInfo174 Tryz.typeInfo175 Tryz.typeInfo176 Tryz.typeInfo177 Tryz.typeInfo178 Tryz.typeInfo179 Tryz.typeInfo180 Tryz.typeInfo181 Tryz.typeInfo182 Tryz.typeInfo183 Tryz.typeInfo184 Tryz.typeInfo185 Tryz.typeInfo186 Tryz.typeInfo187 Tryz.typeInfo188 Tryz.typeInfo189 Tryz.typeInfo190 Tryz.typeInfo191 Tryz.typeInfo192 Tryz.typeInfo193 Tryz.typeInfo194 Tryz.typeInfo195 Tryz.typeInfo196 Tryz.typeInfo197 Tryz.typeInfo198 Tryz.typeInfo199 Tryz.typeInfo200 Tryz.typeInfo201 Tryz.typeInfo202 Tryz.typeInfo203 Tryz.typeInfo204 Tryz.typeInfo205 Tryz.typeInfo206 Tryz.typeInfo207 Tryz.typeInfo208 Tryz.typeInfo209 Tryz.typeInfo210 Tryz.typeInfo211 Tryz.typeInfo212 Tryz.typeInfo213 Tryz.typeInfo214 Tryz.typeInfo215 Tryz.typeInfo216 Tryz.typeInfo217 Tryz.typeInfo218 Tryz.typeInfo219 Tryz.typeInfo220 Tryz.typeInfo221 Tryz.typeInfo222 Tryz.typeInfo223 Tryz.typeInfo224 Tryz.typeInfo225 Tryz.typeInfo226 Tryz.typeInfo227 Tryz.typeInfo228 Tryz.typeInfo229 Tryz.typeInfo230 Tryz.typeInfo231 Tryz.typeInfo232 Tryz.typeInfo233 Tryz.typeInfo234 Tryz.typeInfo235 Tryz.typeInfo236 Tryz.typeInfo237 Tryz.typeInfo238 Tryz.typeInfo239 Tryz.typeInfo240 Tryz.typeInfo241 Tryz.typeInfo242 Tryz.typeInfo243 Tryz.typeInfo244 Tryz.typeInfo245 Tryz.typeInfo246 Tryz.typeInfo247 Tryz.typeInfo248 Tryz.typeInfo249 Tryz.typeInfo250 Tryz.typeInfo251 Tryz.typeInfo252 Tryz.typeInfo253 Tryz.typeInfo254 Tryz.typeInfo255 Tryz.typeInfo256 Tryz.typeInfo257 Tryz.typeInfo258 Tryz.typeInfo259 Tryz.typeInfo260 Tryz.typeInfo261 Tryz.typeInfo262 Tryz.typeInfo263 Tryz.typeInfo264 Tryz.typeInfo265 Tryz.typeInfo266 Tryz.typeInfo267 Tryz.typeInfo268 Tryz.typeInfo269 Tryz.typeInfo270 Tryz.typeInfo271 Tryz.typeInfo272 Tryz.typeInfo273 Tryz.typeInfo274 Tryz.typeInfo275 Tryz.typeInfo276 Tryz.typeInfo277 Tryz.typeInfo278 Tryz.typeInfo279 Tryz.typeInfo280 Tryz.typeInfo281 Tryz.typeInfo282 Tryz.typeInfo283 Tryz.typeInfo284 Tryz.typeInfo285 Tryz.typeInfo286 Tryz.typeInfo287 Tryz.typeInfo288 Tryz.typeInfo289 Tryz.typeInfo290 Tryz.typeInfo291 Tryz.typeInfo292 Tryz.typeInfo293 Tryz.typeInfo294 Tryz.typeInfo295 Tryz.typeInfo296 Tryz.typeInfo297 Tryz.typeInfo298 Tryz.typeInfo299 Tryz.typeInfo300 Tryz.typeInfo301 Tryz.typeInfo302 Tryz.typeInfo303 Tryz.typeInfo304 Tryz.typeInfo305 Tryz.typeInfo306 Tryz.typeInfo307 Tryz.typeInfo308 Tryz.typeInfo309 Tryz.typeInfo310 Tryz.typeInfo311 Tryz.typeInfo312 Tryz.typeInfo313 Tryz.typeInfo314 Tryz.typeInfo315 Tryz.typeInfo316 Tryz.typeInfo317 Tryz.typeInfo318 Tryz.typeInfo319 Tryz.typeInfo320 Tryz.typeInfo321 Tryz.typeInfo322 Tryz.typeInfo323 Tryz.typeInfo324 Tryz.typeInfo325 Tryz.typeInfo326 Tryz.typeInfo327 Tryz.typeInfo328 Tryz.typeInfo329 Tryz.typeInfo330 Tryz.typeInfo331 Tryz.typeInfo332 Tryz.typeInfo333 Tryz.typeInfo334 Tryz.typeInfo335 Tryz.typeInfo336 Tryz.typeInfo337 Tryz.typeInfo338 Tryz.typeInfo339 Tryz.typeInfo340 Tryz.typeInfo341 Tryz.typeInfo342 Tryz.typeInfo343 Tryz.typeInfo344 Tryz.typeInfo345 Tryz.typeInfo346 Tryz.typeInfo347 Tryz.typeInfo348 Tryz.typeInfo349 Tryz.typeInfo350 Tryz.typeInfo351 Tryz.typeInfo352 Tryz.typeInfo353 Tryz.typeInfo354 Tryz.typeInfo355 Tryz.typeInfo356 Tryz.typeInfo357 Tryz.typeInfo358 Tryz.typeInfo359 Tryz.typeInfo360 Tryz.typeInfo361 Tryz.typeInfo362 Tryz.typeInfo363 Tryz.typeInfo364 Tryz.typeInfo365 Tryz.typeInfo366 Tryz.typeInfo367 Tryz.typeInfo368 Tryz.typeInfo369 Tryz.typeInfo370 Tryz.typeInfo371 Tryz.typeInfo372 Tryz.typeInfo373 Tryz.typeInfo374 Tryz.typeInfo375 Tryz.typeInfo376 Tryz.typeInfo377 Tryz.typeInfo378 Tryz.typeInfo379 Tryz.typeInfo380 Tryz.typeInfo381 Tryz.typeInfo382 Tryz.typeInfo383 Tryz.typeInfo384 Tryz.typeInfo385 Tryz.typeInfo386 Tryz.typeInfo387 Tryz.typeInfo388 Tryz.typeInfo389 Tryz.typeInfo390 Tryz.typeInfo391 Tryz.typeInfo392 Tryz.typeInfo393 Tryz.typeInfo394 Tryz.typeInfo395 Tryz.typeInfo396 Tryz.typeInfo397 Tryz.typeInfo398 Tryz.typeInfo399 Tryz.typeInfo400 Tryz.typeInfo401 Tryz.typeInfo402 Tryz.typeInfo403 Tryz.typeInfo404 Tryz.typeInfo405 Tryz.typeInfo406 Tryz.typeInfo407 Tryz.typeInfo408 Tryz.typeInfo409 Tryz.typeInfo410 Tryz.typeInfo411 Tryz.typeInfo412 Tryz.typeInfo413 Tryz.typeInfo414 Tryz.typeInfo415 Tryz.typeInfo416 Tryz.typeInfo417 Tryz.typeInfo418 Tryz.typeInfo419 Tryz.typeInfo420 Tryz.typeInfo421 Tryz.typeInfo422 Tryz.typeInfo423 Tryz.typeInfo424 Tryz.typeInfo425 Tryz.typeInfo426 Tryz.typeInfo427 Tryz.typeInfo428 Tryz.typeInfo429 Tryz.typeInfo430 Tryz.typeInfo431 Tryz.typeInfo432 Tryz.typeInfo433 Tryz.typeInfo434 Tryz.typeInfo435 Tryz.typeInfo436 Tryz.typeInfo437 Tryz.typeInfo438 Tryz.typeInfo439 Tryz.typeInfo440 Tryz.typeInfo441 Tryz.typeInfo442 Tryz.typeInfo443 Tryz.typeInfo444 Tryz.typeInfo445 Tryz.typeInfo446 Tryz.typeInfo447 Tryz.typeInfo448 Tryz.typeInfo449 Tryz.typeInfo450 Tryz.typeInfo451 Tryz.typeInfo452
attribute [go_sem] Tryz.t0 Tryz.t1 Tryz.t2 Tryz.t3 Tryz.t4 Tryz.t5 Tryz.t6 Tryz.t7 Tryz.t8 Tryz.t9 Tryz.t10 Tryz.t11 Tryz.t12 Tryz.t13 Tryz.t14 Tryz.t15 Tryz.t16 Tryz.t17 Tryz.t18 Tryz.t19 Tryz.t20 Tryz.t21 Tryz.t22 Tryz.t23 Tryz.t24 Tryz.t25 Tryz.t26 Tryz.t27 Tryz.t28 Tryz.t29 Tryz.t30 Tryz.t31 Tryz.t32 Tryz.t33 Tryz.t34 Tryz.t35 Tryz.t36 Tryz.t37 Tryz.t38 Tryz.t39 Tryz.t40 Tryz.t41 Tryz.t42 Tryz.t43 Tryz.t44 Tryz.t45 Tryz.t46 Tryz.t47 Tryz.t48 Tryz.t49 Tryz.t50 Tryz.t51 Tryz.t52 Tryz.t53 Tryz.t54 Tryz.t55 Tryz.t56 Tryz.t57 Tryz.t58 Tryz.t59 Tryz.t60 Tryz.t61 Tryz.t62 Tryz.t63 Tryz.t64 Tryz.t65 Tryz.t66 Tryz.t67 Tryz.t68 Tryz.t69 Tryz.t70 Tryz.t71 Tryz.t72 Tryz.t73 Tryz.t74 Tryz.t75 Tryz.t76 Tryz.t77 Tryz.t78 Tryz.t79 Tryz.t80 Tryz.t81 Tryz.t82 Tryz.t83 Tryz.t84 Tryz.t85 Tryz.t86 Tryz.t87 Tryz.t88 Tryz.t89 Tryz.t90 Tryz.t91 Tryz.t92 Tryz.t93 Tryz.t94 Tryz.t95 Tryz.t96 Tryz.t97 Tryz.t98 Tryz.t99 Tryz.t100 Tryz.t101 Tryz.t102 Tryz.t103 Tryz.t104 Tryz.t105 Tryz.t106 Tryz.t107 Tryz.t108 Tryz.t109 Tryz.t110 Tryz.t111 Tryz.t112 Tryz.t113 Tryz.t114 Tryz.t115 Tryz.t116 Tryz.t117 Tryz.t118 Tryz.t119 Tryz.t120 Tryz.t121 Tryz.t122 Tryz.t123 Tryz.t124 Tryz.t125 Tryz.t126 Tryz.t127 Tryz.t128 Tryz.t129 Tryz.t130 Tryz.t131 Tryz.t132 Tryz.t133 Tryz.t134 Tryz.t135 Tryz.t136 Tryz.t137 Tryz.t138 Tryz.t139 Tryz.t140 Tryz.t141 Tryz.t142 Tryz.t143 Tryz.t144 Tryz.t145 Tryz.t146 Tryz.t147 Tryz.t148 Tryz.t149 Tryz.t150 Tryz.t151 Tryz.t152 Tryz.t153 Tryz.t154 Tryz.t155 Tryz.t156 Tryz.t157 Tryz.t158 Tryz.t159 Tryz.t160 Tryz.t161 Tryz.t162 Tryz.t163 Tryz.t164 Tryz.t165 Tryz.t166 Tryz.t167 Tryz.t168 Tryz.t169 Tryz.t170 Tryz.t171 Tryz.t172 Tryz.t173 Tryz.t174 Tryz.t175 Tryz.t176 Tryz.t177 Tryz.t178 Tryz.t179 Tryz.t180 Tryz.t181 Tryz.t182 Tryz.t183 Tryz.t184 Tryz.t185 Tryz.t186 Tryz.t187 Tryz.t188 Tryz.t189 Tryz.t190 Tryz.t191 Tryz.t192 Tryz.t193 Tryz.t194 Tryz.t195 Tryz.t196 Tryz.t197 Tryz.t198 Tryz.t199 Tryz.t200 Tryz.t201 Tryz.t202 Tryz.t203 Tryz.t204 Tryz.t205 Tryz.t206 Tryz.t207 Tryz.t208 Tryz.t209 Tryz.t210 Tryz.t211 Tryz.t212 Tryz.t213 Tryz.t214 Tryz.t215 Tryz.t216 Tryz.t217 Tryz.t218 Tryz.t219 Tryz.t220 Tryz.t221 Tryz.t222 Tryz.t223 Tryz.t224 Tryz.t225 Tryz.t226 Tryz.t227 Tryz.t228 Tryz.t229 Tryz.t230 Tryz.t231 Tryz.t232 Tryz.t233 Tryz.t234 Tryz.t235 Tryz.t236 Tryz.t237 Tryz.t238 Tryz.t239 Tryz.t240 Tryz.t241 Tryz.t242 Tryz.t243 Tryz.t244 Tryz.t245 Tryz.t246 Tryz.t247 Tryz.t248 Tryz.t249 Tryz.t250 Tryz.t251 Tryz.t252 Tryz.t253 Tryz.t254 Tryz.t255 Tryz.t256 Tryz.t257 Tryz.t258 Tryz.t259 Tryz.t260 Tryz.t261 Tryz.t262 Tryz.t263 Tryz.t264 Tryz.t265 Tryz.t266 Tryz.t267 Tryz.t268 Tryz.t269 Tryz.t270 Tryz.t271 Tryz.t272 Tryz.t273 Tryz.t274 Tryz.t275 Tryz.t276 Tryz.t277 Tryz.t278 Tryz.t279 Tryz.t280 Tryz.t281 Tryz.t282 Tryz.t283 Tryz.t284 Tryz.t285 Tryz.t286 Tryz.t287 Tryz.t288 Tryz.t289 Tryz.t290 Tryz.t291 Tryz.t292 Tryz.t293 Tryz.t294 Tryz.t295 Tryz.t296 Tryz.t297 Tryz.t298 Tryz.t299 Tryz.t300 Tryz.t301 Tryz.t302 Tryz.t303 Tryz.t304 Tryz.t305 Tryz.t306 Tryz.t307 Tryz.t308 Tryz.t309 Tryz.t310 Tryz.t311 Tryz.t312 Tryz.t313 Tryz.t314 Tryz.t315 Tryz.t316 Tryz.t317 Tryz.t318 Tryz.t319 Tryz.t320 Tryz.t321 Tryz.t322 Tryz.t323 Tryz.t324 Tryz.t325 Tryz.t326 Tryz.t327 Tryz.t328 Tryz.t329 Tryz.t330 Tryz.t331 Tryz.t332 Tryz.t333 Tryz.t334 Tryz.t335 Tryz.t336 Tryz.t337 Tryz.t338 Tryz.t339 Tryz.t340 Tryz.t341 Tryz.t342 Tryz.t343 Tryz.t344 Tryz.t345 Tryz.t346 Tryz.t347 Tryz.t348 Tryz.t349 Tryz.t350 Tryz.t351 Tryz.t352 Tryz.t353 Tryz.t354 Tryz.t355 Tryz.t356 Tryz.t357 Tryz.t358 Tryz.t359 Tryz.t360 Tryz.t361 Tryz.t362 Tryz.t363 Tryz.t364 Tryz.t365 Tryz.t366 Tryz.t367 Tryz.t368 Tryz.t369 Tryz.t370 Tryz.t371 Tryz.t372 Tryz.t373 Tryz.t374 Tryz.t375 Tryz.t376 Tryz.t377 Tryz.t378 Tryz.t379 Tryz.t380 Tryz.t381 Tryz.t382 Tryz.t383 Tryz.t384 Tryz.t385 Tryz.t386 Tryz.t387 Tryz.t388 Tryz.t389 Tryz.t390 Tryz.t391 Tryz.t392 Tryz.t393 Tryz.t394 Tryz.t395 Tryz.t396 Tryz.t397 Tryz.t398 Tryz.t399 Tryz.t400 Tryz.t401 Tryz.t402 Tryz.t403 Tryz.t404 Tryz.t405 Tryz.t406 Tryz.t407 Tryz.t408 Tryz.t409 Tryz.t410 Tryz.t411 Tryz.t412 Tryz.t413 Tryz.t414 Tryz.t415 Tryz.t416 Tryz.t417 Tryz.t418 Tryz.t419 Tryz.t420 Tryz.t421 Tryz.t422 Tryz.t423 Tryz.t424 Tryz.t425 Tryz.t426 Tryz.t427 Tryz.t428 Tryz.t429 Tryz.t430 Tryz.t431 Tryz.t432 Tryz.t433 Tryz.t434 Tryz.t435 Tryz.t436 Tryz.t437 Tryz.t438 Tryz.t439 Tryz.t440 Tryz.t441 Tryz.t442 Tryz.t443 Tryz.t444 Tryz.t445 Tryz.t446 Tryz.t447 Tryz.t448 Tryz.t449 Tryz.t450 Tryz.t451 Tryz.t452
end Go.Proofs
end
section
open Go Go.AM Go.Proofs
set_option maxRecDepth 10000
set_option linter.all false
theorem trim_pure (xs : List UInt32) (hx : xs.length < 1000000) : Pure Tryz.prog 54 [natA xs] (natA (trimN xs)) := by
  refine enterO [0, 2, 14] [.tmp 2] Tryz.func54 ?_
  (first | refine E0 ?_ | exact T0)
  refine loop_inv (α := {ys : List UInt32 // trimN ys = trimN xs ∧ ys.length < 1000000}) (fun ys => ⟨[(0, tsE 1 (ys.1.map wordA))], []⟩) (fun ys => ys.1.length) ⟨xs, rfl, hx⟩ (by exact fitsO [] (G0) trivial) (fun ⟨ys, hy, hl⟩ => ?_)
  (first | refine E0 ?_ | exact T0)
  refine onB_d (fun h e_h => ?_) (fun h e_h => ?_)
  · have h' : 0 < ys.length := by omega
    (first | refine E1 @e_h ?_ | exact T1 @e_h)
    repeat (first | refine E0 ?_ | exact T0 | refine W0 ?_ | refine O0 ?_ | refine D0 ?_)
    refine onB_split (fun h2 => ?_) (fun h2 => ?_)
    · have hi : ((ys.length : Int) - 1).toNat = ys.length - 1 := by omega
      repeat (first | refine E1 @h2 ?_ | exact T1 @h2 | refine W0 ?_ | refine O0 ?_ | refine D0 ?_)
      rw [hi, beq_iff_eq] at h2
      refine ⟨⟨ys.take (ys.length - 1), (trimN_zero h' h2).trans hy, by simp; omega⟩, _, fitsO [] ?_ trivial, by simp; omega⟩
      exact G1 @hi
    · have hi : ((ys.length : Int) - 1).toNat = ys.length - 1 := by omega
      rw [hi] at h2
      repeat (first | refine E1 @h2 ?_ | exact T1 @h2 | refine W0 ?_ | refine O0 ?_ | refine D0 ?_)
      rw [← hy, trimN_non h' (by simpa using h2)]
  · repeat (first | refine E1 @e_h ?_ | exact T1 @e_h | refine W0 ?_ | refine O0 ?_ | refine D0 ?_)
    have h0 : ys = [] := List.eq_nil_of_length_eq_zero (by omega)
    subst h0
    rw [← hy]; rfl
theorem digit_pure (a : List UInt32) (i : Nat) (ha : a.length < 1000000) (hi : i < 1000000) : Pure Tryz.prog 187 [natA a, .int .i64 i] (.int .u64 (digitN a i).toNat) := by
  unfold digitN
  refine enterO [0, 1, 4, 8] [.tmp 4] Tryz.func187 ?_
  (first | refine E0 ?_ | exact T0)
  refine onB_d (fun h e_h => ?_) (fun h e_h => ?_)
  · repeat (first | refine E1 @e_h ?_ | exact T1 @e_h | refine W0 ?_ | refine O0 ?_ | refine D0 ?_)
    have e : a.getD i 0 = 0 := by simp [List.getD, show a.length ≤ i by omega]
    rw [e]; rfl
  · repeat (first | refine E1 @e_h ?_ | exact T1 @e_h | refine W0 ?_ | refine O0 ?_ | refine D0 ?_)
theorem cmp_pure (a b : List UInt32) (ha : a.length < 1000000) (hb : b.length < 1000000) : Pure Tryz.prog 74 [natA a, natA b] (.int .i64 (cmpN a b)) := by
  unfold cmpN
  refine enterO [0, 1, 4, 5, 10, 15, 20, 31, 40] [.tmp 4] Tryz.func74 ?_
  (first | refine E0 ?_ | exact T0)
  refine onB_split (fun h => ?_) (fun h => ?_)
  · repeat (first | refine E1 @h ?_ | exact T1 @h | refine W0 ?_ | refine O0 ?_ | refine D0 ?_)
    have h' : a.length ≠ b.length := by simp at h; omega
    rw [if_pos h']
    refine onB_d (fun h2 e_h2 => ?_) (fun h2 e_h2 => ?_)
    · repeat (first | refine E1 @e_h2 ?_ | exact T1 @e_h2 | refine W0 ?_ | refine O0 ?_ | refine D0 ?_)
      rw [if_pos (by omega)]
    · repeat (first | refine E1 @e_h2 ?_ | exact T1 @e_h2 | refine W0 ?_ | refine O0 ?_ | refine D0 ?_)
      rw [if_neg (by omega)]
  · repeat (first | refine E1 @h ?_ | exact T1 @h | refine W0 ?_ | refine O0 ?_ | refine D0 ?_)
    have h' : a.length = b.length := by simp at h; omega
    rw [if_neg (by simpa using h')]
    refine loop_inv (α := {k : Nat // k ≤ a.length ∧ cmpGo a b k = cmpGo a b a.length}) (fun k => ⟨[(0, tsE 1 (a.map wordA)), (1, tsE 1 (b.map wordA)), (5, .int .i64 ((k.1 : Int) - 1))], []⟩) (fun k => k.1) ⟨a.length, by omega, rfl⟩
      (by exact fitsO [] (G0) trivial) (fun ⟨k, hk, hc⟩ => ?_)
    (first | refine E0 ?_ | exact T0)
    refine onB_d (fun h2 e_h2 => ?_) (fun h2 e_h2 => ?_)
    · obtain ⟨i, rfl⟩ : ∃ i, k = i + 1 := ⟨k - 1, by omega⟩
      have e : ((i + 1 : Nat) : Int) - 1 = (i : Int) := by omega
      simp only [e] at h2
      repeat (first | refine E2 @e @e_h2 ?_ | exact T2 @e @e_h2 | refine W0 ?_ | refine O0 ?_ | refine D0 ?_)
      rw [cmpGo] at hc
      refine onB_split (fun h3 => ?_) (fun h3 => ?_)
      · repeat (first | refine E1 @h3 ?_ | exact T1 @h3 | refine W0 ?_ | refine O0 ?_ | refine D0 ?_)
        rw [if_pos (by simpa using h3)] at hc
        refine onB_d (fun h4 e_h4 => ?_) (fun h4 e_h4 => ?_)
        · rw [if_pos h4] at hc
          repeat (first | refine E1 @e_h4 ?_ | exact T1 @e_h4 | refine W0 ?_ | refine O0 ?_ | refine D0 ?_)
          rw [← hc]
        · rw [if_neg h4] at hc
          skip
          repeat (first | refine E1 @e_h4 ?_ | exact T1 @e_h4 | refine W0 ?_ | refine O0 ?_ | refine D0 ?_)
          rw [← hc]
      · rw [if_neg (by simpa using h3)] at hc
        repeat (first | refine E1 @h3 ?_ | exact T1 @h3 | refine W0 ?_ | refine O0 ?_ | refine D0 ?_)
        exact ⟨⟨i, by omega, hc⟩, _, fitsO [] (G0) trivial, by simp⟩
    · repeat (first | refine E1 @e_h2 ?_ | exact T1 @e_h2 | refine W0 ?_ | refine O0 ?_ | refine D0 ?_)
      have : k = 0 := by omega
      subst this
      rw [← hc]; rfl
theorem of_pure (b : List UInt8) (hb : b.length < 1000000) : Pure Tryz.prog 103 [bytesA b] (natA (ofN b)) := by
  unfold ofN
  refine enterO [0, 2, 3, 4, 5, 8, 17] [.tmp 2] Tryz.func103 ?_
  (first | refine E0 ?_ | exact T0)
  refine onB_d (fun h e_h => ?_) (fun h e_h => ?_)
  · repeat (first | refine E1 @e_h ?_ | exact T1 @e_h | refine W0 ?_ | refine O0 ?_ | refine D0 ?_)
    rw [if_pos (by omega)]
    rfl
  · have w1 : IntKind.i64.wrap ((IntKind.i64.wrap (↑b.length + 3)).tdiv 4) = ((b.length + 3) / 4 : Nat) := by
      rw [wrap_i64_small (n := ↑b.length + 3) (by omega) (by omega), tdiv_cast (by omega) (by omega), wrap_i64_small (by omega) (by omega)]; omega
    try simp -implicitDefEqProofs only [decide_eq_false (h)]
    rw [if_neg (by omega)]
    repeat (first | refine E1 @w1 ?_ | exact T1 @w1 | refine W0 ?_ | refine O0 ?_ | refine D0 ?_)
    have hl : ∀ i, (forN (ofStep b) i 0 (List.replicate ((b.length + 3) / 4) 0)).length = (b.length + 3) / 4 := fun i =>
      forN_inv' (fun a : List UInt32 => a.length = (b.length + 3) / 4) (fun i s h => by simp [ofStep, h]) _ _ _ (by simp)
    refine loop_inv (α := {i : Nat // i ≤ b.length}) (fun i => ⟨[(0, tsE 1 (b.map byteA)), (3, .sl 0 1 0 ((b.length + 3) / 4)), (4, .int .i64 i.1)], [.row true 1 ((forN (ofStep b) i.1 0 (List.replicate ((b.length + 3) / 4) 0)).map wordA)]⟩) (fun i => b.length - i.1) ⟨0, Nat.zero_le _⟩
      (by exact fitsO [0] (G0) (G3 @wordA.eq_1 @forN.eq_1 @forN.eq_2)) (fun ⟨i, hi⟩ => ?_)
    have hli := hl i
    (first | refine E0 ?_ | exact T0)
    refine onB_d (fun h2 e_h2 => ?_) (fun h2 e_h2 => ?_)
    · have v1 : IntKind.i64.wrap (IntKind.i64.wrap (↑b.length - 1) - ↑i) = ((b.length - 1 - i : Nat) : Int) := by
        rw [wrap_i64_small (n := ↑b.length - 1) (by omega) (by omega), wrap_i64_small (by omega) (by omega)]; omega
      have hk : b.length - 1 - i < b.length := by omega
      have hst : ofStep b i = fun a => a.set ((b.length - 1 - i) / 4) (a.getD ((b.length - 1 - i) / 4) 0 ||| ((b.getD i 0).toUInt32 <<< UInt32.ofNat (8 * ((b.length - 1 - i) % 4)))) := rfl
      generalize hkk : b.length - 1 - i = k at v1 hk hst
      have v2 : IntKind.i64.wrap ((k : Int).tdiv 4) = (k / 4 : Nat) := by rw [tdiv_cast (by omega) (by omega), wrap_i64_small (by omega) (by omega)]; omega
      have v3 : (k : Int).tmod 4 = (k % 4 : Nat) := by rw [tmod_cast (by omega) (by omega)]; omega
      have v4 : IntKind.i64.wrap (8 * ((k % 4 : Nat) : Int)) = (8 * (k % 4) : Nat) := by rw [wrap_i64_small (by omega) (by omega)]; omega
      have v5 : IntKind.u64.wrap ((8 * (k % 4) : Nat) : Int) = (8 * (k % 4) : Nat) := by rw [IntKind.wrap_u64]; omega
      (first | refine E2 @v1 @e_h2 ?_ | exact T2 @v1 @e_h2)
      refine D2 [20] ?_
      have hq : 8 * (k % 4) < 32 := by omega
      repeat (first | refine E5 @v2 @v3 @v4 @v5 (fun x1 => u32_shl x1 hq) ?_ | exact T5 @v2 @v3 @v4 @v5 (fun x1 => u32_shl x1 hq) | refine W0 ?_ | refine O0 ?_ | refine D0 ?_)
      refine ⟨⟨i + 1, by omega⟩, _, fitsO [0] (G0) ?_, by simp; omega⟩
      (first | refine E3 @forN_snoc @hst @wordA.eq_1 ?_ | exact T3 @forN_snoc @hst @wordA.eq_1)
    · repeat (first | refine E1 @e_h2 ?_ | exact T1 @e_h2 | refine W0 ?_ | refine O0 ?_ | refine D0 ?_)
      have : i = b.length := by omega
      subst this
      generalize forN (ofStep b) b.length 0 (List.replicate ((b.length + 3) / 4) 0) = X at hli
      refine call_pure (trim_pure X (by omega)) (by (first | refine E0 ?_ | exact T0); rw [take_all (by first | omega | (simp; omega))]) (by simp [oneV]) ?_
      repeat (first | refine E0 ?_ | exact T0 | refine W0 ?_ | refine O0 ?_ | refine D0 ?_)
end
section
open Go Go.AM Go.Proofs
set_option maxRecDepth 10000
set_option linter.all false
theorem bits_pure (a : List UInt32) (ha : a.length < 1000000) : Pure Tryz.prog 93 [natA a] (.int .i64 (bitsN a)) := by
  refine enterO [0, 2, 3, 4, 5, 9, 17, 26] [.tmp 2] Tryz.func93 ?_
  have z : (if 0 < a.length then 0 else bitsN a) = 0 := by
    by_cases h : a.length = 0
    · simp [bitsN, h]
    · rw [if_pos (by omega)]
  (first | refine E0 ?_ | exact T0)
  refine loop_inv (α := {i : Nat // i ≤ a.length}) (fun i => ⟨[(0, tsE 1 (a.map wordA)), (3, .int .i64 (if i.1 < a.length then 32 * i.1 else bitsN a : Nat)), (4, .int .i64 i.1)], []⟩) (fun i => a.length - i.1) ⟨0, Nat.zero_le _⟩
    (by exact fitsO [] (G1 @z) trivial) (fun ⟨i, hi⟩ => ?_)
  (first | refine E0 ?_ | exact T0)
  refine onB_d (fun h e_h => ?_) (fun h e_h => ?_)
  · have h' : i < a.length := by omega
    repeat (first | refine E2 @e_h (ifp h') ?_ | exact T2 @e_h (ifp h') | refine W0 ?_ | refine O0 ?_ | refine D0 ?_)
    generalize hx : a.getD i 0 = x0
    refine loop_inv (α := {p : Nat × UInt32 // p.1 + blen p.2.toNat = 32 * i + blen x0.toNat}) (fun p => ⟨[(0, tsE 1 (a.map wordA)), (3, .int .i64 p.1.1), (4, .int .i64 i), (5, wordA p.1.2)], []⟩) (fun p => p.1.2.toNat) ⟨(32 * i, x0), rfl⟩
      (by exact fitsO [] (G1 @wordA.eq_1) trivial) (fun ⟨⟨n, x⟩, hn⟩ => ?_)
    have hb0 := blen_le (k := 32) x0.toNat_lt
    simp only at hn
    (first | refine E1 @wordA.eq_1 ?_ | exact T1 @wordA.eq_1)
    refine onB_d (fun h2 e_h2 => ?_) (fun h2 e_h2 => ?_)
    · have h3 : 0 < x.toNat := UInt32.lt_iff_toNat_lt.1 h2
      have h4 := blen_half h3
      repeat (first | refine E1 @e_h2 ?_ | exact T1 @e_h2 | refine W0 ?_ | refine O0 ?_ | refine D0 ?_)
      refine ⟨⟨(n + 1, x / 2), ?_⟩, _, fitsO [] (G1 @wordA.eq_1) trivial, ?_⟩
      · have : (x / 2).toNat = x.toNat / 2 := by simp
        simp only [this]; omega
      · have : (x / 2).toNat = x.toNat / 2 := by simp
        simp only [this]; omega
    · try simp -implicitDefEqProofs only [decide_eq_false (h2)]
      have h3 : x = 0 := by
        apply UInt32.toNat_inj.1
        have : ¬ (0 < x.toNat) := fun h => h2 (UInt32.lt_iff_toNat_lt.2 h)
        simp; omega
      subst h3
      have h5 : n = 32 * i + blen x0.toNat := by simpa [blen] using hn
      repeat (first | refine E0 ?_ | exact T0 | refine W0 ?_ | refine O0 ?_ | refine D0 ?_)
      refine onB_d (fun h6 e_h6 => ?_) (fun h6 e_h6 => ?_)
      · repeat (first | refine E1 @e_h6 ?_ | exact T1 @e_h6 | refine W0 ?_ | refine O0 ?_ | refine D0 ?_)
        refine ⟨⟨i + 1, by omega⟩, _, fitsO [] ?_ trivial, by simp; omega⟩
        simp [go_sem, show i + 1 < a.length by omega]
      · repeat (first | refine E1 @e_h6 ?_ | exact T1 @e_h6 | refine W0 ?_ | refine O0 ?_ | refine D0 ?_)
        refine ⟨⟨i + 1, by omega⟩, _, fitsO [] ?_ trivial, by simp; omega⟩
        have e : i = a.length - 1 := by omega
        simp [go_sem, show ¬ i + 1 < a.length by omega, bitsN, show ¬ a = [] by rintro rfl; simp at h']
        rw [h5, ← hx, e]; simp [List.getD]
  · repeat (first | refine E1 @e_h ?_ | exact T1 @e_h | refine W0 ?_ | refine O0 ?_ | refine D0 ?_)
    rw [if_neg (by omega)]
def bytesK (a : List UInt32) (n k : Nat) : List UInt8 := (List.range n).map fun j => if n - 1 - j < k then byteAt a (n - 1 - j) else 0
theorem bytesK_len (a : List UInt32) (n k : Nat) : (bytesK a n k).length = n := by simp [bytesK]
theorem bytesK_zero (a : List UInt32) (n : Nat) : bytesK a n 0 = List.replicate n 0 := by
  apply List.ext_getElem?
  intro i
  simp only [bytesK, List.getElem?_map, List.getElem?_replicate]
  by_cases h : i < n
  · simp [h, List.getElem?_range]
  · simp [h]
theorem bytesK_step (a : List UInt32) {n k : Nat} (h : k < n) : (bytesK a n k).set (n - 1 - k) (byteAt a k) = bytesK a n (k + 1) := by
  apply List.ext_getElem?
  intro i
  simp only [bytesK, List.getElem?_set, List.getElem?_map, List.length_map, List.length_range]
  by_cases hi : n - 1 - k = i
  · subst hi
    rw [if_pos rfl, if_pos (by omega)]
    simp [show n - 1 - k < n by omega, show n - 1 - (n - 1 - k) = k by omega]
  · rw [if_neg hi]
    by_cases hin : i < n
    · simp only [List.getElem?_range hin, Option.map_some, Option.some.injEq]
      by_cases hk : n - 1 - i < k
      · rw [if_pos hk, if_pos (by omega)]
      · rw [if_neg hk, if_neg (by omega)]
    · simp [hin]
theorem bytesK_end (a : List UInt32) {n k : Nat} (h : ¬ (k < n ∧ k / 4 < a.length)) (hk : k ≤ n) : bytesK a n k = bytesN a n := by
  apply List.map_congr_left
  intro j hj
  have hj := List.mem_range.1 hj
  by_cases h1 : n - 1 - j < k
  · rw [if_pos h1]
  · rw [if_neg h1]
    have h2 : a.length ≤ k / 4 := by omega
    have h3 : a.getD ((n - 1 - j) / 4) 0 = 0 := by
      have : a.length ≤ (n - 1 - j) / 4 := by omega
      simp [List.getD, this]
    unfold byteAt
    rw [h3]
    simp
theorem bytes_pure (a : List UInt32) (n : Nat) (ha : a.length < 1000000) (hn : n < 1000000) : Pure Tryz.prog 107 [natA a, .int .i64 n] (.tup (if 2048 < n ∨ 8 * n < bitsN a then [bytesA [], .bool false] else [bytesA (bytesN a n), .bool true])) := by
  have hb := bitsN_le a
  refine enterO [0, 1, 4, 5, 6, 7, 20, 32] [.tmp 4, .tmp 5] Tryz.func107 ?_
  have z : decide ((n : Int) < 0) = false := decide_eq_false (by omega)
  repeat (first | refine E1 @z ?_ | exact T1 @z | refine W0 ?_ | refine O0 ?_ | refine D0 ?_)
  refine onB_d (fun h e_h => ?_) (fun h e_h => ?_)
  · repeat (first | refine E1 @e_h ?_ | exact T1 @e_h | refine W0 ?_ | refine O0 ?_ | refine D0 ?_)
    rw [if_pos (show 2048 < n ∨ 8 * n < bitsN a by omega)]; rfl
  · repeat (first | refine E1 @e_h ?_ | exact T1 @e_h | refine W0 ?_ | refine O0 ?_ | refine D0 ?_)
    refine C0 (bits_pure a ha) ?_
    repeat (first | refine E0 ?_ | exact T0 | refine W0 ?_ | refine O0 ?_ | refine D0 ?_)
    refine onB_d (fun h2 e_h2 => ?_) (fun h2 e_h2 => ?_)
    · repeat (first | refine E1 @e_h2 ?_ | exact T1 @e_h2 | refine W0 ?_ | refine O0 ?_ | refine D0 ?_)
      rw [if_pos (show 2048 < n ∨ 8 * n < bitsN a by omega)]; rfl
    · repeat (first | refine E1 @e_h2 ?_ | exact T1 @e_h2 | refine W0 ?_ | refine O0 ?_ | refine D0 ?_)
      rw [if_neg (show ¬ (2048 < n ∨ 8 * n < bitsN a) by omega)]
      refine loop_inv (α := {k : Nat // k ≤ n}) (fun k => ⟨[(0, tsE 1 (a.map wordA)), (1, .int .i64 n), (6, .sl 0 1 0 n), (7, .int .i64 k.1)], [.row true 1 ((bytesK a n k.1).map byteA)]⟩) (fun k => n - k.1) ⟨0, Nat.zero_le _⟩
        (by exact fitsO [0] (G0) (G2 @bytesK_zero @byteA.eq_1)) (fun ⟨k, hk⟩ => ?_)
      have hlk := bytesK_len a n k
      have v1 : IntKind.i64.wrap ((k : Int).tdiv 4) = (k / 4 : Nat) := by rw [tdiv_cast (by omega) (by omega), wrap_i64_small (by omega) (by omega)]; omega
      (first | refine E0 ?_ | exact T0)
      refine onB_d (fun h3 e_h3 => ?_) (fun h3 e_h3 => ?_)
      · (first | refine E1 @e_h3 ?_ | exact T1 @e_h3)
        repeat (first | refine E1 @v1 ?_ | exact T1 @v1 | refine W0 ?_ | refine O0 ?_ | refine D0 ?_)
        refine onB_d (fun h4 e_h4 => ?_) (fun h4 e_h4 => ?_)
        · have v2 : IntKind.i64.wrap (IntKind.i64.wrap (↑n - 1) - ↑k) = ((n - 1 - k : Nat) : Int) := by
            rw [wrap_i64_small (n := ↑n - 1) (by omega) (by omega), wrap_i64_small (by omega) (by omega)]; omega
          have v3 : (k : Int).tmod 4 = (k % 4 : Nat) := by rw [tmod_cast (by omega) (by omega)]; omega
          have v4 : IntKind.i64.wrap (8 * ((k % 4 : Nat) : Int)) = (8 * (k % 4) : Nat) := by rw [wrap_i64_small (by omega) (by omega)]; omega
          have v5 : IntKind.u64.wrap ((8 * (k % 4) : Nat) : Int) = (8 * (k % 4) : Nat) := by rw [IntKind.wrap_u64]; omega
          have hq : 8 * (k % 4) < 32 := by omega
          (first | refine E1 @e_h4 ?_ | exact T1 @e_h4)
          repeat (first | refine E6 @v1 @v2 @v3 @v4 @v5 (fun x1 => u32_shr x1 hq) ?_ | exact T6 @v1 @v2 @v3 @v4 @v5 (fun x1 => u32_shr x1 hq) | refine W0 ?_ | refine O0 ?_ | refine D0 ?_)
          refine ⟨⟨k + 1, by omega⟩, _, fitsO [0] (G0) ?_, by simp; omega⟩
          (first | refine E3 (Eq.symm (bytesK_step a (show k < n by omega))) @byteAt.eq_1 @byteA.eq_1 ?_ | exact T3 (Eq.symm (bytesK_step a (show k < n by omega))) @byteAt.eq_1 @byteA.eq_1)
        · repeat (first | refine E1 @e_h4 ?_ | exact T1 @e_h4 | refine W0 ?_ | refine O0 ?_ | refine D0 ?_)
          rw [bytesK_end a (by omega) hk, take_all (by simp [bytesN])]
      · repeat (first | refine E1 @e_h3 ?_ | exact T1 @e_h3 | refine W0 ?_ | refine O0 ?_ | refine D0 ?_)
        rw [bytesK_end a (by omega) hk, take_all (by simp [bytesN])]
theorem isN_pure (a : List UInt32) (ha : a.length < 1000000) : Pure Tryz.prog 192 [natA a] (.bool (isN a)) := by
  unfold isN
  refine enterO [0, 2] [.tmp 2] Tryz.func192 ?_
  repeat (first | refine E0 ?_ | exact T0 | refine W0 ?_ | refine O0 ?_ | refine D0 ?_)
  refine onB_d (fun h e_h => ?_) (fun h e_h => ?_)
  · repeat (first | refine E1 @e_h ?_ | exact T1 @e_h | refine W0 ?_ | refine O0 ?_ | refine D0 ?_)
    rw [decide_eq_true (show a.length ≤ 256 by omega)]
    by_cases h2 : a.length = 0
    · have e : ((a.length : Int) == 0) = true := by rw [h2]; rfl
      repeat (first | refine E1 @e ?_ | exact T1 @e | refine W0 ?_ | refine O0 ?_ | refine D0 ?_)
      rw [decide_eq_true h2]
      rfl
    · have e : ((a.length : Int) == 0) = false := by rw [beq_eq_false_iff_ne]; omega
      have e2 : ((a.length : Int) - 1).toNat = a.length - 1 := by omega
      repeat (first | refine E2 @e @e2 ?_ | exact T2 @e @e2 | refine W0 ?_ | refine O0 ?_ | refine D0 ?_)
      rw [decide_eq_false h2]
      rfl
  · repeat (first | refine E1 @e_h ?_ | exact T1 @e_h | refine W0 ?_ | refine O0 ?_ | refine D0 ?_)
    rw [decide_eq_false (show ¬ a.length ≤ 256 by omega)]
    rfl
end
section
open Go Go.AM Go.Proofs
set_option maxRecDepth 10000
set_option linter.all false
theorem sub_pure (a b : List UInt32) (ha : a.length < 100000) (hb : b.length < 100000) : Pure Tryz.prog 97 [natA a, natA b] (.tup [natA (subO a b).1, .bool (subO a b).2]) := by
  unfold subO subN
  refine enterO [0, 1, 4, 5, 6, 7, 8, 9, 13, 20] [.tmp 4, .tmp 5] Tryz.func97 ?_
  repeat (first | refine E0 ?_ | exact T0 | refine W0 ?_ | refine O0 ?_ | refine D0 ?_)
  refine C0 (cmp_pure a b (by omega) (by omega)) ?_
  repeat (first | refine E0 ?_ | exact T0 | refine W0 ?_ | refine O0 ?_ | refine D0 ?_)
  refine onB_d (fun h e => ?_) (fun h e => ?_)
  · repeat (first | refine E1 @e ?_ | exact T1 @e | refine W0 ?_ | refine O0 ?_ | refine D0 ?_)
    rw [if_pos h]; rfl
  · repeat (first | refine E1 @e ?_ | exact T1 @e | refine W0 ?_ | refine O0 ?_ | refine D0 ?_)
    rw [if_neg h]
    have hl : ∀ i, (forN (subStep a b) i 0 (List.replicate a.length 0, 0)).1.length = a.length := fun i =>
      forN_inv' (fun o : List UInt32 × UInt64 => o.1.length = a.length) (fun i s h => by simp [subStep, h]) _ _ _ (by simp)
    refine loop_inv (α := {i : Nat // i ≤ a.length}) (fun i => ⟨[(0, natA a), (1, natA b), (6, .sl 0 1 0 a.length), (7, .int .u64 (forN (subStep a b) i.1 0 (List.replicate a.length 0, 0)).2.toNat), (8, .int .i64 i.1)], [.row true 1 ((forN (subStep a b) i.1 0 (List.replicate a.length 0, 0)).1.map wordA)]⟩) (fun i => a.length - i.1) ⟨0, Nat.zero_le _⟩
      (by exact fitsO [0] (G2 @forN.eq_1 @forN.eq_2) (G3 @wordA.eq_1 @forN.eq_1 @forN.eq_2)) (fun ⟨i, hi⟩ => ?_)
    have hli := hl i
    (first | refine E0 ?_ | exact T0)
    refine onB_d (fun h2 e2 => ?_) (fun h2 e2 => ?_)
    · repeat (first | refine E1 @e2 ?_ | exact T1 @e2 | refine W0 ?_ | refine O0 ?_ | refine D0 ?_)
      refine C0 (digit_pure a i (by omega) (by omega)) ?_
      repeat (first | refine E0 ?_ | exact T0 | refine W0 ?_ | refine O0 ?_ | refine D0 ?_)
      refine C0 (digit_pure b i (by omega) (by omega)) ?_
      repeat (first | refine E0 ?_ | exact T0 | refine W0 ?_ | refine O0 ?_ | refine D0 ?_)
      refine ⟨⟨i + 1, by omega⟩, _, fitsO [0] (G2 @forN_snoc @subStep.eq_1) (by (first | refine E3 @forN_snoc @subStep.eq_1 @wordA.eq_1 ?_ | exact T3 @forN_snoc @subStep.eq_1 @wordA.eq_1)), by simp; omega⟩
    · repeat (first | refine E1 @e2 ?_ | exact T1 @e2 | refine W0 ?_ | refine O0 ?_ | refine D0 ?_)
      have : i = a.length := by omega
      subst this
      generalize (forN (subStep a b) a.length 0 (List.replicate a.length 0, 0)).1 = X at hli
      refine C0 (trim_pure X (by omega)) ?_
      repeat (first | refine E0 ?_ | exact T0 | refine W0 ?_ | refine O0 ?_ | refine D0 ?_)
theorem add_pure (a b : List UInt32) (ha : a.length < 100000) (hb : b.length < 100000) : Pure Tryz.prog 191 [natA a, natA b] (natA (addN a b)) := by
  unfold addN
  refine enterO [0, 1, 4, 5, 6, 7, 8, 9, 20] [.tmp 4] Tryz.func191 ?_
  have hm : (if (b.length : Int) > a.length then (b.length : Int) else a.length) = ((max a.length b.length : Nat) : Int) := by split <;> omega
  generalize max a.length b.length = n at hm
  have hn : n < 100000 := by split at hm <;> omega
  repeat (first | refine E1 @hm ?_ | exact T1 @hm | refine W0 ?_ | refine O0 ?_ | refine D0 ?_)
  have e0 : ((n : Int) + 1).toNat = n + 1 := by omega
  have hl : ∀ i, (forN (addStep a b) i 0 (List.replicate (n + 1) 0, 0)).1.length = n + 1 := fun i =>
      forN_inv' (fun o : List UInt32 × UInt64 => o.1.length = n + 1) (fun i s h => by simp [addStep, h]) _ _ _ (by simp)
  refine loop_inv (α := {i : Nat // i ≤ n + 1}) (fun i => ⟨[(0, natA a), (1, natA b), (5, .int .i64 ((n : Int) + 1)), (6, .sl 0 1 0 (n + 1)), (7, .int .u64 (forN (addStep a b) i.1 0 (List.replicate (n + 1) 0, 0)).2.toNat), (8, .int .i64 i.1)], [.row true 1 ((forN (addStep a b) i.1 0 (List.replicate (n + 1) 0, 0)).1.map wordA)]⟩) (fun i => n + 1 - i.1) ⟨0, Nat.zero_le _⟩
      (by exact fitsO [0] (G3 @forN.eq_1 @forN.eq_2 @e0) (G4 @wordA.eq_1 @forN.eq_1 @forN.eq_2 @e0)) (fun ⟨i, hi⟩ => ?_)
  have hli := hl i
  (first | refine E0 ?_ | exact T0)
  refine onB_d (fun h2 e2 => ?_) (fun h2 e2 => ?_)
  · repeat (first | refine E1 @e2 ?_ | exact T1 @e2 | refine W0 ?_ | refine O0 ?_ | refine D0 ?_)
    refine C0 (digit_pure a i (by omega) (by omega)) ?_
    repeat (first | refine E0 ?_ | exact T0 | refine W0 ?_ | refine O0 ?_ | refine D0 ?_)
    refine C0 (digit_pure b i (by omega) (by omega)) ?_
    repeat (first | refine E0 ?_ | exact T0 | refine W0 ?_ | refine O0 ?_ | refine D0 ?_)
    refine ⟨⟨i + 1, by omega⟩, _, fitsO [0] (G2 @forN_snoc @addStep.eq_1) (by (first | refine E3 @forN_snoc @addStep.eq_1 @wordA.eq_1 ?_ | exact T3 @forN_snoc @addStep.eq_1 @wordA.eq_1)), by simp; omega⟩
  · repeat (first | refine E1 @e2 ?_ | exact T1 @e2 | refine W0 ?_ | refine O0 ?_ | refine D0 ?_)
    have : i = n + 1 := by omega
    subst this
    generalize (forN (addStep a b) (n + 1) 0 (List.replicate (n + 1) 0, 0)).1 = X at hli
    refine C0 (trim_pure X (by omega)) ?_
    repeat (first | refine E0 ?_ | exact T0 | refine W0 ?_ | refine O0 ?_ | refine D0 ?_)
theorem mul_pure (a b : List UInt32) (ha : a.length < 100000) (hb : b.length < 100000) : Pure Tryz.prog 190 [natA a, natA b] (natA (mulN a b)) := by
  unfold mulN
  refine enterO [0, 1, 4, 5, 6, 7, 8, 9, 19, 25] [.tmp 4] Tryz.func190 ?_
  repeat (first | refine E0 ?_ | exact T0 | refine W0 ?_ | refine O0 ?_ | refine D0 ?_)
  have e0 : ((a.length : Int) + b.length).toNat = a.length + b.length := by omega
  have h1 : ∀ i k s, (forN (mulStep1 a b i) k 0 (s, 0)).1.length = s.length := fun i k s =>
    forN_inv' (fun o : List UInt32 × UInt64 => o.1.length = s.length) (fun k t h => by simp [mulStep1, h]) _ _ _ rfl
  have hl : ∀ i, (forN (mulStep a b) i 0 (List.replicate (a.length + b.length) 0)).length = a.length + b.length := fun i =>
    forN_inv' (fun o : List UInt32 => o.length = a.length + b.length) (fun i s h => by simp [mulStep, h1, h]) _ _ _ (by simp)
  refine loop_inv (α := {i : Nat // i ≤ a.length}) (fun i => ⟨[(0, natA a), (1, natA b), (5, .sl 0 1 0 (a.length + b.length)), (6, .int .i64 i.1)], [.row true 1 ((forN (mulStep a b) i.1 0 (List.replicate (a.length + b.length) 0)).map wordA)]⟩) (fun i => a.length - i.1) ⟨0, Nat.zero_le _⟩
      (by exact fitsO [0] (G3 @forN.eq_1 @forN.eq_2 @e0) (G4 @wordA.eq_1 @forN.eq_1 @forN.eq_2 @e0)) (fun ⟨i, hi⟩ => ?_)
  have hli := hl i
  (first | refine E0 ?_ | exact T0)
  refine onB_d (fun h2 e2 => ?_) (fun h2 e2 => ?_)
  · repeat (first | refine E1 @e2 ?_ | exact T1 @e2 | refine W0 ?_ | refine O0 ?_ | refine D0 ?_)
    generalize hX : forN (mulStep a b) i 0 (List.replicate (a.length + b.length) 0) = X at hli
    refine loop_inv (α := {k : Nat // k ≤ b.length}) (fun k => ⟨[(0, natA a), (1, natA b), (5, .sl 0 1 0 (a.length + b.length)), (6, .int .i64 i), (7, .int .u64 (forN (mulStep1 a b i) k.1 0 (X, 0)).2.toNat), (8, .int .i64 k.1)], [.row true 1 ((forN (mulStep1 a b i) k.1 0 (X, 0)).1.map wordA)]⟩) (fun k => b.length - k.1) ⟨0, Nat.zero_le _⟩
      (by exact fitsO [0] (G2 @forN.eq_1 @forN.eq_2) (G2 @forN.eq_1 @forN.eq_2)) (fun ⟨k, hk⟩ => ?_)
    have hlk := h1 i k X
    have e1 : ((i : Int) + k).toNat = i + k := by omega
    (first | refine E0 ?_ | exact T0)
    refine onB_d (fun h3 e3 => ?_) (fun h3 e3 => ?_)
    · repeat (first | refine E2 @e3 @e1 ?_ | exact T2 @e3 @e1 | refine W0 ?_ | refine O0 ?_ | refine D0 ?_)
      refine ⟨⟨k + 1, by omega⟩, _, fitsO [0] (G2 @forN_snoc @mulStep1.eq_1) (by (first | refine E3 @forN_snoc @mulStep1.eq_1 @wordA.eq_1 ?_ | exact T3 @forN_snoc @mulStep1.eq_1 @wordA.eq_1)), by simp; omega⟩
    · have : k = b.length := by omega
      subst this
      have e4 : ((i : Int) + b.length).toNat = i + b.length := by omega
      repeat (first | refine E2 @e3 @e4 ?_ | exact T2 @e3 @e4 | refine W0 ?_ | refine O0 ?_ | refine D0 ?_)
      refine ⟨⟨i + 1, by omega⟩, _, fitsO [0] (G0) (by (first | refine E4 @forN_snoc @mulStep.eq_1 @wordA.eq_1 @hX ?_ | exact T4 @forN_snoc @mulStep.eq_1 @wordA.eq_1 @hX)), by simp; omega⟩
  · have : i = a.length := by omega
    subst this
    repeat (first | refine E1 @e2 ?_ | exact T1 @e2 | refine W0 ?_ | refine O0 ?_ | refine D0 ?_)
    generalize forN (mulStep a b) a.length 0 (List.replicate (a.length + b.length) 0) = X at hli
    refine C0 (trim_pure X (by omega)) ?_
    repeat (first | refine E0 ?_ | exact T0 | refine W0 ?_ | refine O0 ?_ | refine D0 ?_)
end
section
open Go Go.AM Go.Proofs
set_option maxRecDepth 10000
set_option linter.all false
theorem shifted_does (a : List UInt32) (n : Nat) (ha : a.length < 100000) (hn : n < 32) : Does Tryz.prog 265 [natA a, .int .u64 n] [] (fun v σ => v = .sl 0 1 0 (a.length + 1) ∧ σ = [.row true 1 ((shiftedN a n).map wordA)]) := by
  refine enterD [0, 1, 4, 5, 6, 7, 15] [.tmp 4] Tryz.func265 rfl (by kernel_rfl) rfl ?_
  repeat (first | refine E0 ?_ | exact T0 | refine W0 ?_ | refine O0 ?_ | refine D0 ?_)
  have e0 : ((a.length : Int) + 1).toNat = a.length + 1 := by omega
  have hn' : n < 64 := by omega
  refine loop_inv (α := {i : Nat // i ≤ a.length}) (fun i => ⟨[(0, natA a), (1, .int .u64 n), (5, .sl 0 1 0 (a.length + 1)), (6, .int .i64 i.1)], [.row true 1 ((forN (shiftStep a n) i.1 0 (List.replicate (a.length + 1) 0)).map wordA)]⟩) (fun i => a.length - i.1) ⟨0, Nat.zero_le _⟩
      (by exact fitsO [0] (G1 @e0) (G4 @wordA.eq_1 @forN.eq_1 @forN.eq_2 @e0)) (fun ⟨i, hi⟩ => ?_)
  have hli := shift_len a n i
  have e1 : ((i : Int) + 1).toNat = i + 1 := by omega
  (first | refine E0 ?_ | exact T0)
  refine onB_d (fun h2 e2 => ?_) (fun h2 e2 => ?_)
  · repeat (first | refine E3 @e2 @e1 (fun x1 => u64_shl x1 hn') ?_ | exact T3 @e2 @e1 (fun x1 => u64_shl x1 hn') | refine W0 ?_ | refine O0 ?_ | refine D0 ?_)
    refine ⟨⟨i + 1, by omega⟩, _, fitsO [0] (G0) (by (first | refine E3 @forN_snoc @shiftStep.eq_1 @wordA.eq_1 ?_ | exact T3 @forN_snoc @shiftStep.eq_1 @wordA.eq_1)), by simp; omega⟩
  · repeat (first | refine E1 @e2 ?_ | exact T1 @e2 | refine W0 ?_ | refine O0 ?_ | refine D0 ?_)
    have : i = a.length := by omega
    subst this
    simp [shiftedN]
theorem back_pure (a : List UInt32) (n : Nat) (ha : a.length < 100000) (hn : n < 32) : Pure Tryz.prog 268 [natA a, .int .u64 n] (natA (backN a n)) := by
  unfold backN
  refine enterO [0, 1, 4, 5, 6, 13] [.tmp 4] Tryz.func268 ?_
  repeat (first | refine E0 ?_ | exact T0 | refine W0 ?_ | refine O0 ?_ | refine D0 ?_)
  have hn' : n < 64 := by omega
  refine loop_inv (α := {i : Nat // i ≤ a.length}) (fun i => ⟨[(0, natA a), (1, .int .u64 n), (5, .sl 0 1 0 a.length), (6, .int .i64 i.1)], [.row true 1 ((forN (backStep a n) i.1 0 (List.replicate a.length 0)).map wordA)]⟩) (fun i => a.length - i.1) ⟨0, Nat.zero_le _⟩
      (by exact fitsO [0] (G0) (G3 @wordA.eq_1 @forN.eq_1 @forN.eq_2)) (fun ⟨i, hi⟩ => ?_)
  have hli := back_len a n i
  (first | refine E0 ?_ | exact T0)
  refine onB_d (fun h2 e2 => ?_) (fun h2 e2 => ?_)
  · (first | refine E1 @e2 ?_ | exact T1 @e2)
    refine D2 [17] ?_
    repeat (first | refine E0 ?_ | exact T0 | refine W0 ?_ | refine O0 ?_ | refine D0 ?_)
    refine Q0 (digit_pure a (i + 1) (by omega) (by omega)) ?_
    repeat (first | refine E1 (fun x1 => u64_shr x1 hn') ?_ | exact T1 (fun x1 => u64_shr x1 hn') | refine W0 ?_ | refine O0 ?_ | refine D0 ?_)
    refine ⟨⟨i + 1, by omega⟩, _, fitsO [0] (G0) (by (first | refine E3 @forN_snoc @backStep.eq_1 @wordA.eq_1 ?_ | exact T3 @forN_snoc @backStep.eq_1 @wordA.eq_1)), by simp; omega⟩
  · repeat (first | refine E1 @e2 ?_ | exact T1 @e2 | refine W0 ?_ | refine O0 ?_ | refine D0 ?_)
    have : i = a.length := by omega
    subst this
    generalize forN (backStep a n) a.length 0 (List.replicate a.length 0) = X at hli
    refine C0 (trim_pure X (by omega)) ?_
    repeat (first | refine E0 ?_ | exact T0 | refine W0 ?_ | refine O0 ?_ | refine D0 ?_)
theorem short_pure (a : List UInt32) (b : UInt64) (ha : a.length < 100000) (hb : b ≠ 0) : Pure Tryz.prog 264 [natA a, .int .u64 b.toNat] (.tup [natA (shortN a b).1, natA (shortN a b).2, .bool true]) := by
  unfold shortN
  refine enterO [0, 1, 4, 5, 6, 7, 8, 9, 10, 18] [.tmp 4, .tmp 5, .tmp 6] Tryz.func264 ?_
  have hb' : b.toNat ≠ 0 := fun h => hb (UInt64.toNat_inj.1 (by simpa using h))
  repeat (first | refine E0 ?_ | exact T0 | refine W0 ?_ | refine O0 ?_ | refine D0 ?_)
  refine loop_inv (α := {p : Nat × List UInt32 × UInt64 // p.1 ≤ a.length ∧ p.2.1.length = a.length ∧ shortGo a b p.1 p.2 = shortGo a b a.length (List.replicate a.length 0, 0)}) (fun p => ⟨[(0, natA a), (1, .int .u64 b.toNat), (7, .sl 0 1 0 a.length), (8, .int .u64 p.1.2.2.toNat), (9, .int .i64 ((p.1.1 : Int) - 1))], [.row true 1 (p.1.2.1.map wordA)]⟩) (fun p => p.1.1) ⟨(a.length, List.replicate a.length 0, 0), Nat.le_refl _, by simp, rfl⟩
      (by exact fitsO [0] (G0) (G1 @wordA.eq_1)) (fun ⟨⟨k, q, r⟩, hk, hq, hs⟩ => ?_)
  simp only at hk hq hs
  (first | refine E0 ?_ | exact T0)
  refine onB_d (fun h2 e2 => ?_) (fun h2 e2 => ?_)
  · obtain ⟨i, rfl⟩ : ∃ i, k = i + 1 := ⟨k - 1, by omega⟩
    have e : ((i + 1 : Nat) : Int) - 1 = (i : Int) := by omega
    simp only [e] at h2 e2
    repeat (first | refine E2 @e @e2 ?_ | exact T2 @e @e2 | refine W0 ?_ | refine O0 ?_ | refine D0 ?_)
    refine ⟨⟨(i, shortStep a b i (q, r)), by simp; omega, by simp [shortStep, hq], by simpa [shortGo] using hs⟩, _, fitsO [0] (G1 @shortStep.eq_1) (by (first | refine E2 @shortStep.eq_1 @wordA.eq_1 ?_ | exact T2 @shortStep.eq_1 @wordA.eq_1)), by simp⟩
  · have : k = 0 := by omega
    subst this
    repeat (first | refine E1 @e2 ?_ | exact T1 @e2 | refine W0 ?_ | refine O0 ?_ | refine D0 ?_)
    refine C0 (trim_pure q (by omega)) ?_
    repeat (first | refine E0 ?_ | exact T0 | refine W0 ?_ | refine O0 ?_ | refine D0 ?_)
    refine C0 (trim_pure [r.toUInt32] (by simp)) ?_
    repeat (first | refine E0 ?_ | exact T0 | refine W0 ?_ | refine O0 ?_ | refine D0 ?_)
    rw [← hs]
    rfl
theorem guess_does (u v : List UInt32) (at_ : Nat) (hu : u.length < 100000) (hv : 2 ≤ v.length) (hat : at_ + v.length < u.length) (htop : 2 ^ 31 ≤ (v.getD (v.length - 1) 0).toNat) :
    Does Tryz.prog 266 [.sl 0 1 0 u.length, natA v, .int .i64 at_] [.row true 1 (u.map wordA)] (fun r σ => r = .int .u64 (guessN u v at_).toNat ∧ σ = [.row true 1 (u.map wordA)]) := by
  refine enterD [0, 1, 2, 6, 7, 8, 9, 10, 71, 83] [.tmp 6] Tryz.func266 rfl (by kernel_rfl) rfl ?_
  have e1 : ((at_ : Int) + v.length).toNat = at_ + v.length := by omega
  have e2 : ((at_ : Int) + v.length - 1).toNat = at_ + v.length - 1 := by omega
  have e3 : ((v.length : Int) - 1).toNat = v.length - 1 := by omega
  have e4 : ((at_ : Int) + v.length - 2).toNat = at_ + v.length - 2 := by omega
  have e5 : ((v.length : Int) - 2) = ((v.length - 2 : Nat) : Int) := by omega
  have hv1 : ((v.getD (v.length - 1) 0).toUInt64.toNat) = (v.getD (v.length - 1) 0).toNat := by simp
  have hv2 := (v.getD (v.length - 1) 0).toNat_lt
  repeat (first | refine E3 @e1 @e2 @e3 ?_ | exact T3 @e1 @e2 @e3 | refine W0 ?_ | refine O0 ?_ | refine D0 ?_)
  have hg : guessN u v at_ = guessGo (v.getD (v.length - 1) 0).toUInt64 (digitN v (v.length - 2)) (u.getD (at_ + v.length - 2) 0).toUInt64 3 (((u.getD (at_ + v.length) 0).toUInt64 <<< 32 ||| (u.getD (at_ + v.length - 1) 0).toUInt64) / (v.getD (v.length - 1) 0).toUInt64) (((u.getD (at_ + v.length) 0).toUInt64 <<< 32 ||| (u.getD (at_ + v.length - 1) 0).toUInt64) % (v.getD (v.length - 1) 0).toUInt64) := rfl
  rw [hg]
  clear hg
  generalize hv1' : (v.getD (v.length - 1) 0).toUInt64 = v1 at *
  generalize ((u.getD (at_ + v.length) 0).toUInt64 <<< 32 ||| (u.getD (at_ + v.length - 1) 0).toUInt64) = top at *
  generalize hq0 : top / v1 = q0
  generalize hr0 : top % v1 = r0
  have hr0' : r0.toNat < v1.toNat := by rw [← hr0, UInt64.toNat_mod]; exact Nat.mod_lt _ (by omega)
  refine loop_inv (α := {p : Nat × UInt64 × UInt64 // p.2.2.toNat < 4294967296 ∧ 4294967296 - p.2.2.toNat ≤ p.1 * 2147483648 ∧ guessGo v1 (digitN v (v.length - 2)) (u.getD (at_ + v.length - 2) 0).toUInt64 p.1 p.2.1 p.2.2 = guessGo v1 (digitN v (v.length - 2)) (u.getD (at_ + v.length - 2) 0).toUInt64 3 q0 r0})
    (fun p => ⟨[(0, .sl 0 1 0 u.length), (1, natA v), (2, .int .i64 at_), (7, .int .i64 v.length), (9, .int .u64 p.1.2.1.toNat), (10, .int .u64 p.1.2.2.toNat)], [.row true 1 (u.map wordA)]⟩) (fun p => p.1.1) ⟨(3, q0, r0), by simp only; omega, by simp only; omega, rfl⟩
    (by exact fitsO [0] (G0) (G0)) (fun ⟨⟨k, q, r⟩, hr, hk, hs⟩ => ?_)
  simp only at hr hk hs
  obtain ⟨k, rfl⟩ : ∃ k', k = k' + 1 := ⟨k - 1, by omega⟩
  rw [guessGo] at hs
  have hrl : r < 4294967296 := UInt64.lt_iff_toNat_lt.2 hr
  have er : decide (r < 4294967296) = true := decide_eq_true hrl
  have hsum : (r + v1).toNat = r.toNat + v1.toNat := by rw [UInt64.toNat_add]; omega
  have h2t : (4294967296 : UInt64).toNat = 4294967296 := rfl
  repeat (first | refine E3 @e4 @e5 @er ?_ | exact T3 @e4 @e5 @er | refine W0 ?_ | refine O0 ?_ | refine D0 ?_)
  refine onB_d (fun h1 f1 => ?_) (fun h1 f1 => ?_)
  · rw [if_pos (.inl h1)] at hs
    repeat (first | refine E6 @f1 @e3 @e4 @e5 @er @hv1' ?_ | exact T6 @f1 @e3 @e4 @e5 @er @hv1' | refine W0 ?_ | refine O0 ?_ | refine D0 ?_)
    have ht : v1.toNat < 4294967296 := by omega
    repeat (first | refine E0 ?_ | exact T0 | refine W0 ?_ | refine O0 ?_ | refine D0 ?_)
    refine onB_d (fun h5 f5 => ?_) (fun h5 f5 => ?_)
    · rw [if_pos h5] at hs
      repeat (first | refine E1 @f5 ?_ | exact T1 @f5 | refine W0 ?_ | refine O0 ?_ | refine D0 ?_)
      rw [← hs]
    · rw [if_neg h5] at hs
      repeat (first | refine E1 @f5 ?_ | exact T1 @f5 | refine W0 ?_ | refine O0 ?_ | refine D0 ?_)
      have h6 : r.toNat + v1.toNat < 4294967296 := by
        rw [UInt64.le_iff_toNat_le] at h5; omega
      exact ⟨⟨(k, q - 1, r + v1), by simp only; omega, by simp only; omega, hs⟩, _, fitsO [0] (G2 @e3 @hv1') (G0), by simp⟩
  · repeat (first | refine E4 @f1 @e4 @e5 @er ?_ | exact T4 @f1 @e4 @e5 @er | refine W0 ?_ | refine O0 ?_ | refine D0 ?_)
    refine Q0 (digit_pure v (v.length - 2) (by omega) (by omega)) ?_
    repeat (first | refine E4 @f1 @e4 @e5 @er ?_ | exact T4 @f1 @e4 @e5 @er | refine W0 ?_ | refine O0 ?_ | refine D0 ?_)
    refine onB_d (fun h3 f3 => ?_) (fun h3 f3 => ?_)
    · rw [if_pos (.inr ⟨hrl, h3⟩)] at hs
      repeat (first | refine E7 @f3 @f1 @e3 @e4 @e5 @er @hv1' ?_ | exact T7 @f3 @f1 @e3 @e4 @e5 @er @hv1' | refine W0 ?_ | refine O0 ?_ | refine D0 ?_)
      have ht : v1.toNat < 4294967296 := by omega
      repeat (first | refine E0 ?_ | exact T0 | refine W0 ?_ | refine O0 ?_ | refine D0 ?_)
      refine onB_d (fun h5 f5 => ?_) (fun h5 f5 => ?_)
      · rw [if_pos h5] at hs
        repeat (first | refine E1 @f5 ?_ | exact T1 @f5 | refine W0 ?_ | refine O0 ?_ | refine D0 ?_)
        rw [← hs]
      · rw [if_neg h5] at hs
        repeat (first | refine E1 @f5 ?_ | exact T1 @f5 | refine W0 ?_ | refine O0 ?_ | refine D0 ?_)
        have h6 : r.toNat + v1.toNat < 4294967296 := by
          rw [UInt64.le_iff_toNat_le] at h5; omega
        exact ⟨⟨(k, q - 1, r + v1), by simp only; omega, by simp only; omega, hs⟩, _, fitsO [0] (G2 @e3 @hv1') (G0), by simp⟩
    · rw [if_neg (by rintro (h | h); exact h1 h; exact h3 h.2)] at hs
      repeat (first | refine E5 @f3 @f1 @e4 @e5 @er ?_ | exact T5 @f3 @f1 @e4 @e5 @er | refine W0 ?_ | refine O0 ?_ | refine D0 ?_)
      rw [hs]
end
section
open Go Go.AM Go.Proofs
set_option maxRecDepth 10000
set_option linter.all false
theorem less_does (u v : List UInt32) (at_ : Nat) (q : UInt64) (hu : u.length < 100000) (hat : at_ + v.length < u.length) :
    Does Tryz.prog 267 [.sl 0 1 0 u.length, natA v, .int .i64 at_, .int .u64 q.toNat] [.row true 1 (u.map wordA)] (fun r σ => r = .bool (lessN u v at_ q).2 ∧ σ = [.row true 1 ((lessN u v at_ q).1.map wordA)]) := by
  unfold lessN
  refine enterD [0, 1, 2, 3, 8, 9, 10, 11, 12, 13, 14, 15, 19, 55, 59] [.tmp 8] Tryz.func267 rfl (by kernel_rfl) rfl ?_
  repeat (first | refine E0 ?_ | exact T0 | refine W0 ?_ | refine O0 ?_ | refine D0 ?_)
  have hl : ∀ i, (forN (lessStep v at_ q) i 0 ⟨u, 0, 0⟩).u.length = u.length := fun i =>
    forN_inv' (fun s : Ls => s.u.length = u.length) (fun i s h => by simp [lessStep, h]) _ _ _ rfl
  refine loop_inv (α := {i : Nat // i ≤ v.length + 1}) (fun i => ⟨[(0, .sl 0 1 0 u.length), (1, natA v), (2, .int .i64 at_), (3, .int .u64 q.toNat), (9, .int .u64 (forN (lessStep v at_ q) i.1 0 ⟨u, 0, 0⟩).borrow.toNat), (10, .int .u64 (forN (lessStep v at_ q) i.1 0 ⟨u, 0, 0⟩).carry.toNat), (11, .int .i64 i.1)], [.row true 1 ((forN (lessStep v at_ q) i.1 0 ⟨u, 0, 0⟩).u.map wordA)]⟩) (fun i => v.length + 1 - i.1) ⟨0, Nat.zero_le _⟩
      (by exact fitsO [0] (G2 @forN.eq_1 @forN.eq_2) (G2 @forN.eq_1 @forN.eq_2)) (fun ⟨i, hi⟩ => ?_)
  have hli := hl i
  have w1 : IntKind.i64.wrap ((at_ : Int) + i) = ((at_ + i : Nat) : Int) := by rw [wrap_i64_small (by omega) (by omega)]; omega
  (first | refine E0 ?_ | exact T0)
  refine onB_d (fun h2 e2 => ?_) (fun h2 e2 => ?_)
  · repeat (first | refine E2 @e2 @w1 ?_ | exact T2 @e2 @w1 | refine W0 ?_ | refine O0 ?_ | refine D0 ?_)
    refine C0 (digit_pure v i (by omega) (by omega)) ?_
    repeat (first | refine E1 @w1 ?_ | exact T1 @w1 | refine W0 ?_ | refine O0 ?_ | refine D0 ?_)
    refine ⟨⟨i + 1, by omega⟩, _, fitsO [0] (G2 @forN_snoc @lessStep.eq_1) (G2 @forN_snoc @lessStep.eq_1), by simp; omega⟩
  · have : i = v.length + 1 := by omega
    subst this
    repeat (first | refine E1 @e2 ?_ | exact T1 @e2 | refine W0 ?_ | refine O0 ?_ | refine D0 ?_)
    generalize forN (lessStep v at_ q) (v.length + 1) 0 ⟨u, 0, 0⟩ = s at *
    refine onB_split (fun h3 => ?_) (fun h3 => ?_)
    · rw [if_pos (by simpa using h3)]
      repeat (first | refine E1 @h3 ?_ | exact T1 @h3 | refine W0 ?_ | refine O0 ?_ | refine D0 ?_)
    · rw [if_neg (by simpa using h3)]
      repeat (first | refine E1 @h3 ?_ | exact T1 @h3 | refine W0 ?_ | refine O0 ?_ | refine D0 ?_)
      have hl2 : ∀ i, (forN (lessBack v at_) i 0 (s.u, 0)).1.length = s.u.length := fun i =>
        forN_inv' (fun t : List UInt32 × UInt64 => t.1.length = s.u.length) (fun i t h => by simp [lessBack, h]) _ _ _ rfl
      refine loop_inv (α := {i : Nat // i ≤ v.length + 1}) (fun i => ⟨[(0, .sl 0 1 0 u.length), (1, natA v), (2, .int .i64 at_), (14, .int .u64 (forN (lessBack v at_) i.1 0 (s.u, 0)).2.toNat), (15, .int .i64 i.1)], [.row true 1 ((forN (lessBack v at_) i.1 0 (s.u, 0)).1.map wordA)]⟩) (fun i => v.length + 1 - i.1) ⟨0, Nat.zero_le _⟩
        (by exact fitsO [0] (G2 @forN.eq_1 @forN.eq_2) (G2 @forN.eq_1 @forN.eq_2)) (fun ⟨j, hj⟩ => ?_)
      have hlj := hl2 j
      have w2 : IntKind.i64.wrap ((at_ : Int) + j) = ((at_ + j : Nat) : Int) := by rw [wrap_i64_small (by omega) (by omega)]; omega
      (first | refine E0 ?_ | exact T0)
      refine onB_d (fun h4 e4 => ?_) (fun h4 e4 => ?_)
      · repeat (first | refine E2 @e4 @w2 ?_ | exact T2 @e4 @w2 | refine W0 ?_ | refine O0 ?_ | refine D0 ?_)
        refine Q0 (digit_pure v j (by omega) (by omega)) ?_
        repeat (first | refine E1 @w2 ?_ | exact T1 @w2 | refine W0 ?_ | refine O0 ?_ | refine D0 ?_)
        refine ⟨⟨j + 1, by omega⟩, _, fitsO [0] (G2 @forN_snoc @lessBack.eq_1) (G2 @forN_snoc @lessBack.eq_1), by simp; omega⟩
      · have : j = v.length + 1 := by omega
        subst this
        repeat (first | refine E1 @e4 ?_ | exact T1 @e4 | refine W0 ?_ | refine O0 ?_ | refine D0 ?_)
theorem div_pure (a b : List UInt32) (ha : a.length < 50000) (hb : b.length < 50000) (hb0 : 0 < b.length) (hbt : b.getD (b.length - 1) 0 ≠ 0) :
    Pure Tryz.prog 188 [natA a, natA b] (.tup [natA (divN a b).1, natA (divN a b).2, .bool true]) := by
  unfold divN
  refine enterO [0, 1, 4, 5, 6, 7, 8, 9, 10, 11, 12, 15, 18, 31, 43, 66, 78] [.tmp 4, .tmp 5, .tmp 6] Tryz.func188 ?_
  have z : ((b.length : Int) == 0) = false := by rw [beq_eq_false_iff_ne]; omega
  repeat (first | refine E1 @z ?_ | exact T1 @z | refine W0 ?_ | refine O0 ?_ | refine D0 ?_)
  by_cases h1 : b.length = 1
  · rw [if_pos h1]
    have z1 : ((b.length : Int) == 1) = true := by rw [h1]; rfl
    repeat (first | refine E1 @z1 ?_ | exact T1 @z1 | refine W0 ?_ | refine O0 ?_ | refine D0 ?_)
    have hb1 : (b.getD 0 0).toUInt64 ≠ 0 := fun h => hbt (by
      have := congrArg UInt64.toNat h
      rw [h1]
      exact UInt32.toNat_inj.1 (by simpa using this))
    refine C0 (short_pure a (b.getD 0 0).toUInt64 (by omega) hb1) ?_
    repeat (first | refine E0 ?_ | exact T0 | refine W0 ?_ | refine O0 ?_ | refine D0 ?_)
  · rw [if_neg h1]
    have z1 : ((b.length : Int) == 1) = false := by rw [beq_eq_false_iff_ne]; omega
    repeat (first | refine E1 @z1 ?_ | exact T1 @z1 | refine W0 ?_ | refine O0 ?_ | refine D0 ?_)
    refine C0 (cmp_pure a b (by omega) (by omega)) ?_
    repeat (first | refine E0 ?_ | exact T0 | refine W0 ?_ | refine O0 ?_ | refine D0 ?_)
    refine onB_d (fun h2 e2 => ?_) (fun h2 e2 => ?_)
    · repeat (first | refine E1 @e2 ?_ | exact T1 @e2 | refine W0 ?_ | refine O0 ?_ | refine D0 ?_)
      rw [if_pos h2]
      rfl
    · rw [if_neg h2]
      repeat (first | refine E1 @e2 ?_ | exact T1 @e2 | refine W0 ?_ | refine O0 ?_ | refine D0 ?_)
      have hs := shifted_top hb0 hbt
      have hu := upN_lt hbt
      have hlen : b.length ≤ a.length := by
        unfold cmpN at h2
        split at h2
        · split at h2 <;> omega
        · omega
      have w1 : IntKind.i64.wrap ((b.length : Int) - 1) = ((b.length - 1 : Nat) : Int) := by rw [wrap_i64_small (by omega) (by omega)]; omega
      generalize ht : b.getD (b.length - 1) 0 = t at *
      refine loop_inv (α := {n : Nat // n ≤ upN t}) (fun n => ⟨[(0, natA a), (1, natA b), (7, .int .u64 n.1)], []⟩) (fun n => upN t - n.1) ⟨0, Nat.zero_le _⟩
        (by exact fitsO [] (G0) (G0)) (fun ⟨n, hn⟩ => ?_)
      have hn32 : n < 32 := by omega
      have hm := up_more hn hbt
      repeat (first | refine E3 @w1 @ht (fun x1 => u32_shl x1 hn32) ?_ | exact T3 @w1 @ht (fun x1 => u32_shl x1 hn32) | refine W0 ?_ | refine O0 ?_ | refine D0 ?_)
      refine onB_d (fun h3 e3 => ?_) (fun h3 e3 => ?_)
      · have h3' : n < upN t := hm.1 (by have := UInt32.lt_iff_toNat_lt.1 h3; exact this)
        have w2 : IntKind.u64.wrap ((n : Int) + 1) = ((n + 1 : Nat) : Int) := by rw [wrap_u64_small (by omega) (by omega)]; omega
        repeat (first | refine E2 @e3 @w2 ?_ | exact T2 @e3 @w2 | refine W0 ?_ | refine O0 ?_ | refine D0 ?_)
        exact ⟨⟨n + 1, by omega⟩, _, fitsO [] (G0) (G0), by simp; omega⟩
      · have h3' : n = upN t := by
          have : ¬ n < upN t := fun h => h3 (UInt32.lt_iff_toNat_lt.2 (by have := hm.2 h; exact this))
          omega
        subst h3'
        repeat (first | refine E1 @e3 ?_ | exact T1 @e3 | refine W0 ?_ | refine O0 ?_ | refine D0 ?_)
        refine S0 (shifted_does a (upN t) (by omega) hu) [] [] [false, false] ?_
        rintro v0 s0 ⟨rfl, rfl⟩
        repeat (first | refine E0 ?_ | exact T0 | refine W0 ?_ | refine O0 ?_ | refine D0 ?_)
        refine S0 (shifted_does b (upN t) (by omega) hu) [] [] [false, false] ?_
        rintro v0 s0 ⟨rfl, rfl⟩
        repeat (first | refine E0 ?_ | exact T0 | refine W0 ?_ | refine O0 ?_ | refine D0 ?_)
        have hsl := shiftedN_len b (upN t)
        refine C0 (trim_pure (shiftedN b (upN t)) (by omega)) ?_
        generalize hv : trimN (shiftedN b (upN t)) = v at hs
        have w3 : IntKind.i64.wrap (↑a.length - ↑b.length) = ((a.length - b.length : Nat) : Int) := by rw [wrap_i64_small (by omega) (by omega)]; omega
        have w4 : IntKind.i64.wrap (((a.length - b.length : Nat) : Int) + 1) = ((a.length - b.length + 1 : Nat) : Int) := by rw [wrap_i64_small (by omega) (by omega)]; omega
        repeat (first | refine E2 @w3 @w4 ?_ | exact T2 @w3 @w4 | refine W0 ?_ | refine O0 ?_ | refine D0 ?_)
        have hua := shiftedN_len a (upN t)
        generalize hU : shiftedN a (upN t) = U at hua
        generalize hn' : a.length - b.length = n'
        refine loop_inv (α := {p : Nat × List UInt32 × List UInt32 // p.1 ≤ n' + 1 ∧ p.2.1.length = a.length + 1 ∧ p.2.2.length = n' + 1 ∧ divGo v p.1 p.2 = divGo v (n' + 1) (U, List.replicate (n' + 1) 0)})
          (fun p => ⟨[(0, natA a), (1, natA b), (7, .int .u64 (upN t)), (8, .sl 0 1 0 p.1.2.1.length), (9, natA v), (10, .sl 1 1 0 p.1.2.2.length), (11, .int .i64 ((p.1.1 : Int) - 1))], [.row true 1 (p.1.2.1.map wordA), .row true 1 (p.1.2.2.map wordA)]⟩) (fun p => p.1.1) ⟨(n' + 1, U, List.replicate (n' + 1) 0), Nat.le_refl _, hua, by simp, rfl⟩
          (by exact fitsO [0, 2] (G1 @hua) (G0)) (fun ⟨⟨k, us, qs⟩, hk, hus, hqs, hd⟩ => ?_)
        simp only at hk hus hqs hd
        (first | refine E0 ?_ | exact T0)
        refine onB_d (fun h4 e4 => ?_) (fun h4 e4 => ?_)
        · obtain ⟨i, rfl⟩ : ∃ i, k = i + 1 := ⟨k - 1, by omega⟩
          have e : ((i + 1 : Nat) : Int) - 1 = (i : Int) := by omega
          simp only [e] at h4 e4
          have hvl := hs.1
          have hvt := hs.2
          rw [← hvl] at hvt
          simp only [divGo] at hd
          repeat (first | refine E2 @e @e4 ?_ | exact T2 @e @e4 | refine W0 ?_ | refine O0 ?_ | refine D0 ?_)
          refine S0 (guess_does us v i (by omega) (by omega) (by omega) hvt) [] [0] [false, false, false] ?_
          rintro v0 s0 ⟨rfl, rfl⟩
          repeat (first | refine E0 ?_ | exact T0 | refine W0 ?_ | refine O0 ?_ | refine D0 ?_)
          refine S0 (less_does us v i (guessN us v i) (by omega) (by omega)) [] [0] [false, false, false, false] ?_
          rintro v0 s0 ⟨rfl, rfl⟩
          repeat (first | refine E0 ?_ | exact T0 | refine W0 ?_ | refine O0 ?_ | refine D0 ?_)
          have hll := less_len us v i (guessN us v i)
          have hstep : divStep v i (us, qs) = ((lessN us v i (guessN us v i)).1, qs.set i (if (lessN us v i (guessN us v i)).2 then guessN us v i else guessN us v i - 1).toUInt32) := rfl
          refine onB_split (fun h5 => ?_) (fun h5 => ?_)
          · rw [h5] at hstep
            repeat (first | refine E1 @h5 ?_ | exact T1 @h5 | refine W0 ?_ | refine O0 ?_ | refine D0 ?_)
            refine ⟨⟨(i, divStep v i (us, qs)), by simp only; omega, by rw [hstep]; simp only; omega, by rw [hstep]; simp; omega, hd⟩, _, fitsO [0, 1] (G2 @hstep @hll) (G1 @hstep), by simp⟩
          · rw [h5] at hstep
            repeat (first | refine E1 @h5 ?_ | exact T1 @h5 | refine W0 ?_ | refine O0 ?_ | refine D0 ?_)
            refine ⟨⟨(i, divStep v i (us, qs)), by simp only; omega, by rw [hstep]; simp only; omega, by rw [hstep]; simp; omega, hd⟩, _, fitsO [0, 1] (G2 @hstep @hll) (G1 @hstep), by simp⟩
        · have : k = 0 := by omega
          subst this
          (first | refine E1 @e4 ?_ | exact T1 @e4)
          refine draw_freeze [0, 1] ?_
          (first | refine E0 ?_ | exact T0)
          refine D2 [] ?_
          repeat (first | refine E0 ?_ | exact T0 | refine W0 ?_ | refine O0 ?_ | refine D0 ?_)
          refine Q0 (trim_pure qs (by omega)) ?_
          repeat (first | refine E0 ?_ | exact T0 | refine W0 ?_ | refine O0 ?_ | refine D0 ?_)
          refine Q0 (back_pure (us.take v.length) (upN t) (by simp; omega) hu) ?_
          repeat (first | refine E0 ?_ | exact T0 | refine W0 ?_ | refine O0 ?_ | refine D0 ?_)
          rw [hU, hv, ← hd]
          rfl
end
section
open Go Go.AM Go.Proofs
set_option maxRecDepth 10000
set_option linter.all false
theorem rest_pure (a m : List UInt32) (ha : a.length < 50000) (hm : m.length < 50000) (h : okM m) : Pure Tryz.prog 100 [natA a, natA m] (.tup [natA (restN a m), .bool true]) := by
  unfold restN
  refine enterO [0, 1, 4, 5, 7, 8] [.tmp 4, .tmp 5] Tryz.func100 ?_
  repeat (first | refine E0 ?_ | exact T0 | refine W0 ?_ | refine O0 ?_ | refine D0 ?_)
  refine C0 (div_pure a m ha hm h.1 h.2) ?_
  repeat (first | refine E0 ?_ | exact T0 | refine W0 ?_ | refine O0 ?_ | refine D0 ?_)
theorem mulM_pure (a b m : List UInt32) (ha : a.length < 20000) (hb : b.length < 20000) (hm : m.length < 50000) (h : okM m) : Pure Tryz.prog 101 [natA a, natA b, natA m] (.tup [natA (mulM a b m), .bool true]) := by
  unfold mulM
  refine enterO [0, 1, 2, 6, 7] [.tmp 6, .tmp 7] Tryz.func101 ?_
  repeat (first | refine E0 ?_ | exact T0 | refine W0 ?_ | refine O0 ?_ | refine D0 ?_)
  refine C0 (mul_pure a b (by omega) (by omega)) ?_
  repeat (first | refine E0 ?_ | exact T0 | refine W0 ?_ | refine O0 ?_ | refine D0 ?_)
  have := mulN_len a b
  refine C0 (rest_pure (mulN a b) m (by omega) hm h) ?_
  repeat (first | refine E0 ?_ | exact T0 | refine W0 ?_ | refine O0 ?_ | refine D0 ?_)
theorem subM_pure (a b m : List UInt32) (ha : a.length < 20000) (hb : b.length < 20000) (hm : m.length < 20000) (h : okM m) : Pure Tryz.prog 189 [natA a, natA b, natA m] (.tup [natA (subM a b m), .bool true]) := by
  unfold subM
  refine enterO [0, 1, 2, 6, 7, 8, 9, 10, 11, 12, 13, 31, 39] [.tmp 6, .tmp 7] Tryz.func189 ?_
  repeat (first | refine E0 ?_ | exact T0 | refine W0 ?_ | refine O0 ?_ | refine D0 ?_)
  refine C0 (rest_pure a m (by omega) (by omega) h) ?_
  repeat (first | refine E0 ?_ | exact T0 | refine W0 ?_ | refine O0 ?_ | refine D0 ?_)
  refine C0 (rest_pure b m (by omega) (by omega) h) ?_
  have h1 := restN_len (a := a) h
  have h2 := restN_len (a := b) h
  repeat (first | refine E0 ?_ | exact T0 | refine W0 ?_ | refine O0 ?_ | refine D0 ?_)
  refine C0 (sub_pure (restN a m) (restN b m) (by omega) (by omega)) ?_
  repeat (first | refine E0 ?_ | exact T0 | refine W0 ?_ | refine O0 ?_ | refine D0 ?_)
  refine onB_split (fun h3 => ?_) (fun h3 => ?_)
  · repeat (first | refine E1 @h3 ?_ | exact T1 @h3 | refine W0 ?_ | refine O0 ?_ | refine D0 ?_)
  · repeat (first | refine E1 @h3 ?_ | exact T1 @h3 | refine W0 ?_ | refine O0 ?_ | refine D0 ?_)
    refine C0 (add_pure (restN a m) m (by omega) (by omega)) ?_
    repeat (first | refine E0 ?_ | exact T0 | refine W0 ?_ | refine O0 ?_ | refine D0 ?_)
    have h4 := addN_len (restN a m) m
    refine C0 (sub_pure (addN (restN a m) m) (restN b m) (by omega) (by omega)) ?_
    repeat (first | refine E0 ?_ | exact T0 | refine W0 ?_ | refine O0 ?_ | refine D0 ?_)
    rw [if_neg (by simp [h3])]
theorem exp_pure (a e m : List UInt32) (ha : a.length < 50000) (he : e.length < 50000) (hm : m.length < 20000) (h : okM m) : Pure Tryz.prog 106 [natA a, natA e, natA m] (.tup [natA (expN a e m), .bool true]) := by
  unfold expN
  refine enterO [0, 1, 2, 6, 7, 8, 9, 10, 18, 29, 49] [.tmp 6, .tmp 7] Tryz.func106 ?_
  repeat (first | refine E0 ?_ | exact T0 | refine W0 ?_ | refine O0 ?_ | refine D0 ?_)
  refine C0 (rest_pure [1] m (by simp) (by omega) h) ?_
  repeat (first | refine E0 ?_ | exact T0 | refine W0 ?_ | refine O0 ?_ | refine D0 ?_)
  refine C0 (rest_pure a m (by omega) (by omega) h) ?_
  repeat (first | refine E0 ?_ | exact T0 | refine W0 ?_ | refine O0 ?_ | refine D0 ?_)
  refine C0 (bits_pure e (by omega)) ?_
  have hb := bitsN_le e
  repeat (first | refine E0 ?_ | exact T0 | refine W0 ?_ | refine O0 ?_ | refine D0 ?_)
  refine loop_inv (α := {p : Nat × List UInt32 // p.1 ≤ bitsN e ∧ p.2.length ≤ m.length ∧ expGo (restN a m) e m p.1 p.2 = expGo (restN a m) e m (bitsN e) (restN [1] m)})
    (fun p => ⟨[(0, natA (restN a m)), (1, natA e), (2, natA m), (8, natA p.1.2), (10, .int .i64 ((p.1.1 : Int) - 1))], []⟩) (fun p => p.1.1) ⟨(bitsN e, restN [1] m), Nat.le_refl _, restN_len h, rfl⟩
    (by exact fitsO [] (G0) (G0)) (fun ⟨⟨k, x⟩, hk, hx, hd⟩ => ?_)
  simp only at hk hx hd
  have hra := restN_len (a := a) h
  (first | refine E0 ?_ | exact T0)
  refine onB_d (fun h1 e1 => ?_) (fun h1 e1 => ?_)
  · obtain ⟨i, rfl⟩ : ∃ i, k = i + 1 := ⟨k - 1, by omega⟩
    have ee : ((i + 1 : Nat) : Int) - 1 = (i : Int) := by omega
    simp only [ee] at h1 e1
    repeat (first | refine E2 @ee @e1 ?_ | exact T2 @ee @e1 | refine W0 ?_ | refine O0 ?_ | refine D0 ?_)
    refine C0 (mulM_pure x x m (by omega) (by omega) (by omega) h) ?_
    have w1 : IntKind.i64.wrap ((i : Int).tdiv 32) = (i / 32 : Nat) := by rw [tdiv_cast (by omega) (by omega), wrap_i64_small (by omega) (by omega)]; omega
    have w2 : (i : Int).tmod 32 = (i % 32 : Nat) := by rw [tmod_cast (by omega) (by omega)]; omega
    have w3 : IntKind.u64.wrap ((i % 32 : Nat) : Int) = (i % 32 : Nat) := by rw [wrap_u64_small (by omega) (by omega)]
    have hq : i % 32 < 32 := by omega
    have hmm : (mulM x x m).length ≤ m.length := restN_len h
    simp only [expGo] at hd
    unfold expStep at hd
    repeat (first | refine E4 @w1 @w2 @w3 (fun x1 => u32_shr x1 hq) ?_ | exact T4 @w1 @w2 @w3 (fun x1 => u32_shr x1 hq) | refine W0 ?_ | refine O0 ?_ | refine D0 ?_)
    refine onB_split (fun h2 => ?_) (fun h2 => ?_)
    · rw [if_pos (by simpa using h2)] at hd
      repeat (first | refine E1 @h2 ?_ | exact T1 @h2 | refine W0 ?_ | refine O0 ?_ | refine D0 ?_)
      refine C0 (mulM_pure (mulM x x m) (restN a m) m (by omega) (by omega) (by omega) h) ?_
      repeat (first | refine E0 ?_ | exact T0 | refine W0 ?_ | refine O0 ?_ | refine D0 ?_)
      exact ⟨⟨(i, mulM (mulM x x m) (restN a m) m), by simp only; omega, restN_len h, hd⟩, _, fitsO [] (G0) (G0), by simp⟩
    · rw [if_neg (by simpa using h2)] at hd
      repeat (first | refine E1 @h2 ?_ | exact T1 @h2 | refine W0 ?_ | refine O0 ?_ | refine D0 ?_)
      exact ⟨⟨(i, mulM x x m), by simp only; omega, hmm, hd⟩, _, fitsO [] (G0) (G0), by simp⟩
  · have : k = 0 := by omega
    subst this
    repeat (first | refine E1 @e1 ?_ | exact T1 @e1 | refine W0 ?_ | refine O0 ?_ | refine D0 ?_)
    rw [← hd]
    rfl
theorem invGo_nil (m : List UInt32) (k : Nat) (v : Iv) (h : v.s = []) : invGo m k v = v := by cases k with | zero => rfl | succ k => simp [invGo, h]
theorem inv_pure (w : UInt32) (m : List UInt32) (hw : w ≠ 0) (hm : m.length < 10000) (h2 : 2 ≤ m.length) (h : okM m) : Pure Tryz.prog 98 [natA [w], natA m] (.tup [natA (invN w m).1, .bool (invN w m).2]) := by
  have hc : ¬ cmpN m [2] < 0 := by
    unfold cmpN
    rw [if_pos (by simp only [List.length_cons, List.length_nil]; omega), if_neg (by simp only [List.length_cons, List.length_nil]; omega)]
    decide
  have hc2 : cmpN [w] m < 0 := by
    unfold cmpN
    rw [if_pos (by simp; omega), if_pos (by simp; omega)]
    decide
  have hr : restN [w] m = [w] := by
    unfold restN divN
    rw [if_neg (by omega), if_pos hc2]
  unfold invN
  rw [if_neg hc, hr]
  simp only
  refine enterO [0, 1, 4, 5, 6, 7, 8, 9, 10, 11, 13, 15, 20, 32, 61] [.tmp 4, .tmp 5] Tryz.func98 ?_
  have e0 : decide (cmpN m [2] < 0) = false := decide_eq_false hc
  repeat (first | refine E0 ?_ | exact T0 | refine W0 ?_ | refine O0 ?_ | refine D0 ?_)
  refine C0 (cmp_pure m [2] (by omega) (by simp)) ?_
  repeat (first | refine E1 @e0 ?_ | exact T1 @e0 | refine W0 ?_ | refine O0 ?_ | refine D0 ?_)
  refine C0 (rest_pure [w] m (by simp) (by omega) h) ?_
  repeat (first | refine E1 @hr ?_ | exact T1 @hr | refine W0 ?_ | refine O0 ?_ | refine D0 ?_)
  refine loop_t [8, 9] (α := {p : Nat × Iv // p.2.r.length < 10000 ∧ p.2.x.length ≤ m.length + 1 ∧ p.2.y.length ≤ m.length + 1 ∧ (p.2.s = [] ∨ ∃ t : UInt32, t ≠ 0 ∧ p.2.s = [t] ∧ t.toNat < p.1) ∧ invGo m p.1 p.2 = invGo m 4294967296 ⟨m, [w], [], [1]⟩})
    (fun p => ⟨[(1, natA m), (6, natA p.1.2.r), (7, natA p.1.2.s), (8, natA p.1.2.x), (9, natA p.1.2.y)], []⟩) (fun p => p.1.1 + p.1.2.s.length) ⟨(4294967296, ⟨m, [w], [], [1]⟩), by simp only; omega, by simp, by simp, .inr ⟨w, hw, rfl, w.toNat_lt⟩, rfl⟩
    (by exact fitsO [] (G0) (G0)) (fun ⟨⟨k, v⟩, hrl, hx, hy, hs, hd⟩ => ?_)
  obtain ⟨r, s, x, y⟩ := v
  simp only at hrl hx hy hs hd
  (first | refine E0 ?_ | exact T0)
  refine onB_d (fun h1 e1 => ?_) (fun h1 e1 => ?_)
  · rcases hs with hs | ⟨t, ht, hs, htk⟩
    · subst hs; simp at h1
    · subst hs
      obtain ⟨k, rfl⟩ : ∃ k', k = k' + 1 := ⟨k - 1, by omega⟩
      have hl := divN_len r [t] (by simp) ht
      repeat (first | refine E1 @e1 ?_ | exact T1 @e1 | refine W0 ?_ | refine O0 ?_ | refine D0 ?_)
      refine C0 (div_pure r [t] (by omega) (by simp) (by simp) ht) ?_
      repeat (first | refine E0 ?_ | exact T0 | refine W0 ?_ | refine O0 ?_ | refine D0 ?_)
      refine C0 (mulM_pure (divN r [t]).1 y m (by omega) (by omega) (by omega) h) ?_
      have hmm : (mulM (divN r [t]).1 y m).length ≤ m.length := restN_len h
      repeat (first | refine E0 ?_ | exact T0 | refine W0 ?_ | refine O0 ?_ | refine D0 ?_)
      refine C0 (subM_pure x (mulM (divN r [t]).1 y m) m (by omega) (by omega) (by omega) h) ?_
      repeat (first | refine E0 ?_ | exact T0 | refine W0 ?_ | refine O0 ?_ | refine D0 ?_)
      have hq : (divN r [t]).2 = (shortN r t.toUInt64).2 := by unfold divN; rw [if_pos (by simp)]; rfl
      obtain ⟨t', ht', hq'⟩ := shortN_rest r ht
      rw [hq'] at hq
      rw [invGo, if_neg (by simp)] at hd
      have ht'' := UInt32.lt_iff_toNat_lt.1 ht'
      refine ⟨[], ⟨(k, invStep m ⟨r, [t], x, y⟩), by simp [invStep], by simp only [invStep]; omega, by simp only [invStep]; exact subM_len h, ?_, hd⟩, _, fitsO [] (G1 @invStep.eq_1) (G0), ?_⟩
      · simp only [invStep]
        rw [hq]
        by_cases h0 : t' = 0
        · rw [if_pos h0]; exact .inl rfl
        · rw [if_neg h0]; exact .inr ⟨t', h0, rfl, by omega⟩
      · simp only [invStep]
        have := hl.2.1
        simp at this ⊢
        omega
  · have hs0 : s = [] := by
      apply List.eq_nil_of_length_eq_zero; omega
    subst hs0
    rw [invGo_nil m k _ rfl] at hd
    repeat (first | refine E1 @e1 ?_ | exact T1 @e1 | refine W0 ?_ | refine O0 ?_ | refine D0 ?_)
    refine C0 (cmp_pure r [1] (by omega) (by simp)) ?_
    rw [← hd]
    repeat (first | refine E0 ?_ | exact T0 | refine W0 ?_ | refine O0 ?_ | refine D0 ?_)
    refine onB_split (fun h3 => ?_) (fun h3 => ?_)
    · rw [if_pos (by simpa using h3)]
      repeat (first | refine E1 @h3 ?_ | exact T1 @h3 | refine W0 ?_ | refine O0 ?_ | refine D0 ?_)
      rfl
    · rw [if_neg (by simpa using h3)]
      repeat (first | refine E1 @h3 ?_ | exact T1 @h3 | refine W0 ?_ | refine O0 ?_ | refine D0 ?_)
end
section
open Go Go.AM Go.Proofs
set_option maxRecDepth 10000
set_option linter.all false
namespace Go.AM
theorem bytes_app (xs ys : List UInt8) (zs : List AV) (h : zs = ys.map byteA) : xs.map byteA ++ zs = (xs ++ ys).map byteA := by rw [h, List.map_append]
end Go.AM
def preN (k : Nat) : List UInt8 := [0, 1] ++ List.replicate k 0xff
theorem preN_len (k : Nat) : (preN k).length = k + 2 := by simp [preN]
theorem preN_succ (k : Nat) : preN (k + 1) = preN k ++ [0xff] := by simp only [preN, List.replicate_succ', List.append_assoc]
theorem frame_pure (d : List UInt8) (n : Nat) (hd : d.length = 32) (hn : 62 ≤ n) (hn2 : n ≤ 1024) : Pure Tryz.prog 104 [bytesA d, .int .i64 n] (.tup [bytesA (frameN d n), .bool true]) := by
  refine enterO [0, 1, 4, 5, 6, 17, 23] [.tmp 4, .tmp 5] Tryz.func104 ?_
  have z1 : ((d.length : Int) != 32) = false := by rw [hd]; rfl
  have z2 : decide ((n : Int) < 62) = false := decide_eq_false (by omega)
  have z3 : decide ((n : Int) > 1024) = false := decide_eq_false (by omega)
  repeat (first | refine E3 @z1 @z2 @z3 ?_ | exact T3 @z1 @z2 @z3 | refine W0 ?_ | refine O0 ?_ | refine D0 ?_)
  refine loop_inv (α := {k : Nat // k ≤ n - 54}) (fun k => ⟨[(0, bytesA d), (1, .int .i64 n), (6, .sl 0 1 0 (k.1 + 2))], [.row true 1 ((preN k.1).map byteA)]⟩) (fun k => n - 54 - k.1) ⟨0, Nat.zero_le _⟩
    (by exact fitsO [0] (G0) (by (first | refine E0 ?_ | exact T0); rfl)) (fun ⟨k, hk⟩ => ?_)
  have hl := preN_len k
  repeat (first | refine E0 ?_ | exact T0 | refine W0 ?_ | refine O0 ?_ | refine D0 ?_)
  refine onB_d (fun h1 e1 => ?_) (fun h1 e1 => ?_)
  · repeat (first | refine E1 @e1 ?_ | exact T1 @e1 | refine W0 ?_ | refine O0 ?_ | refine D0 ?_)
    refine ⟨⟨k + 1, by omega⟩, _, fitsO [2] (G0) ?_, by simp; omega⟩
    (first | refine E0 ?_ | exact T0)
    rw [take_all (by omega), preN_succ, List.map_append]
    rfl
  · repeat (first | refine E1 @e1 ?_ | exact T1 @e1 | refine W0 ?_ | refine O0 ?_ | refine D0 ?_)
    have e : k = n - 54 := by omega
    subst e
    rw [take_all (show (preN (n - 54)).length ≤ n - 54 + 2 by omega)]
    have key : ∀ C : List UInt8, C.length = 20 → List.take (n - 54 + 2 + min 20 20 + d.length) (List.take (n - 54 + 2 + min 20 20) (preN (n - 54) ++ C) ++ d) = preN (n - 54) ++ C ++ d := by
      intro C hC
      rw [take_all (l := preN (n - 54) ++ C) (by simp; omega), take_all (by simp; omega)]
    rw [key _ rfl]
    rfl
theorem size_pure (k : KeyN) (hk : k.n.length < 50000) : Pure Tryz.prog 105 [keyA k] (.int .i64 (sizeN k.n)) := by
  unfold sizeN
  refine enterO [0, 1, 2] [.tmp 2] Tryz.func105 ?_
  repeat (first | refine E0 ?_ | exact T0 | refine W0 ?_ | refine O0 ?_ | refine D0 ?_)
  refine C0 (bits_pure k.n (by omega)) ?_
  have hb := bitsN_le k.n
  have w1 : IntKind.i64.wrap ((bitsN k.n : Int) + 7) = ((bitsN k.n + 7 : Nat) : Int) := by rw [wrap_i64_small (by omega) (by omega)]; omega
  have w2 : IntKind.i64.wrap (((bitsN k.n + 7 : Nat) : Int).tdiv 8) = (((bitsN k.n + 7) / 8 : Nat) : Int) := by rw [tdiv_cast (by omega) (by omega), wrap_i64_small (by omega) (by omega)]; omega
  repeat (first | refine E2 @w1 @w2 ?_ | exact T2 @w1 @w2 | refine W0 ?_ | refine O0 ?_ | refine D0 ?_)
theorem isKey_pure (k : KeyN) (hk : k.n.length < 50000) (hx : k.x = []) (hy : k.y = []) (hi : k.inf = false) (ha : k.alg = 1) (hn : isN k.n = true) (hb1 : 512 ≤ bitsN k.n) (hb2 : bitsN k.n ≤ 4096) (hodd : k.n.getD 0 0 % 2 = 1) (he : k.e % 2 = 1) (he3 : 3 ≤ k.e) :
    Pure Tryz.prog 194 [keyA k] (.bool true) := by
  obtain ⟨alg, n, e, x, y, inf⟩ := k
  simp only at *
  subst hx hy hi ha
  have hlen : 0 < n.length := by
    have := bitsN_le n; omega
  refine enterO [0, 1, 2, 3, 29] [.tmp 2] Tryz.func194 ?_
  repeat (first | refine E0 ?_ | exact T0 | refine W0 ?_ | refine O0 ?_ | refine D0 ?_)
  refine C0 (isN_pure n (by omega)) ?_
  repeat (first | refine E1 @hn ?_ | exact T1 @hn | refine W0 ?_ | refine O0 ?_ | refine D0 ?_)
  refine C0 (bits_pure n (by omega)) ?_
  have z1 : decide ((bitsN n : Int) ≥ 512) = true := decide_eq_true (by omega)
  have z2 : decide ((bitsN n : Int) ≤ 4096) = true := decide_eq_true (by omega)
  have z3 : (n.getD 0 0 % 2 == 1) = true := by rw [hodd]; rfl
  have z4 : (e % 2 == 1) = true := by rw [he]; rfl
  have z5 : decide (3 ≤ e) = true := decide_eq_true he3
  repeat (first | refine E5 @z1 @z2 @z3 @z4 @z5 ?_ | exact T5 @z1 @z2 @z3 @z4 @z5 | refine W0 ?_ | refine O0 ?_ | refine D0 ?_)
theorem sign_pure (k : KeyN) (d : List UInt32) (dg : List UInt8) (hk : k.n.length < 256) (hd : d.length < 50000) (hdg : dg.length = 32) (hm : okM k.n) (hs1 : 62 ≤ sizeN k.n) (hs2 : sizeN k.n ≤ 1024) :
    Pure Tryz.prog 47 [keyA k, natA d, bytesA dg] (bytesA (signN k.n d dg)) := by
  unfold signN
  refine enterO [0, 1, 2, 3, 6, 7, 9, 11] [.tmp 6] Tryz.func47 ?_
  repeat (first | refine E0 ?_ | exact T0 | refine W0 ?_ | refine O0 ?_ | refine D0 ?_)
  refine C0 (size_pure k (by omega)) ?_
  repeat (first | refine E0 ?_ | exact T0 | refine W0 ?_ | refine O0 ?_ | refine D0 ?_)
  refine C0 (frame_pure dg (sizeN k.n) hdg hs1 hs2) ?_
  repeat (first | refine E0 ?_ | exact T0 | refine W0 ?_ | refine O0 ?_ | refine D0 ?_)
  have hf := frameN_len hdg hs1
  refine Q0 (of_pure (frameN dg (sizeN k.n)) (by omega)) ?_
  repeat (first | refine E0 ?_ | exact T0 | refine W0 ?_ | refine O0 ?_ | refine D0 ?_)
  have hl := ofN_len (frameN dg (sizeN k.n))
  refine Q0 (exp_pure (ofN (frameN dg (sizeN k.n))) d k.n (by omega) hd (by omega) hm) ?_
  repeat (first | refine E0 ?_ | exact T0 | refine W0 ?_ | refine O0 ?_ | refine D0 ?_)
  refine C0 (size_pure k (by omega)) ?_
  repeat (first | refine E0 ?_ | exact T0 | refine W0 ?_ | refine O0 ?_ | refine D0 ?_)
  have he := expN_len (a := ofN (frameN dg (sizeN k.n))) (e := d) hm
  have hb := expN_bits (a := ofN (frameN dg (sizeN k.n))) (e := d) hm
  have hsz : bitsN k.n ≤ 8 * sizeN k.n := by unfold sizeN; omega
  refine C0 (bytes_pure (expN (ofN (frameN dg (sizeN k.n))) d k.n) (sizeN k.n) (by omega) (by omega)) ?_
  rw [if_neg (by omega)]
  repeat (first | refine E0 ?_ | exact T0 | refine W0 ?_ | refine O0 ?_ | refine D0 ?_)
end
section
open Go Go.AM Go.Proofs
set_option maxRecDepth 10000
set_option maxHeartbeats 800000
set_option linter.all false
theorem turned_pure (x : UInt32) (n : Nat) (h0 : 0 < n) (h : n < 32) : Pure Tryz.prog 197 [.int .u32 x.toNat, .int .u64 n] (.int .u32 (turnedN x n).toNat) := by
  unfold turnedN
  refine enterO [0, 1, 4] [.tmp 4] Tryz.func197 ?_
  have w1 : IntKind.u64.wrap (32 - (n : Int)) = ((32 - n : Nat) : Int) := by rw [wrap_u64_small (by omega) (by omega)]; omega
  have h1 : 32 - n < 32 := by omega
  repeat (first | refine E3 @w1 (fun x1 => u32_shl x1 h1) (fun x1 => u32_shr x1 h) ?_ | exact T3 @w1 (fun x1 => u32_shl x1 h1) (fun x1 => u32_shr x1 h) | refine W0 ?_ | refine O0 ?_ | refine D0 ?_)
theorem words_pure : Pure Tryz.prog 198 [] (.agg (kN.map wordA)) := by
  refine enterO [0] [.cell 0 238] Tryz.func198 ?_
  repeat (first | refine E0 ?_ | exact T0 | refine W0 ?_ | refine O0 ?_ | refine D0 ?_)
  rfl
theorem block_pure (h : List UInt32) (b : List UInt8) (hh : h.length = 8) (hb : b.length = 64) : Pure Tryz.prog 114 [.agg (h.map wordA), bytesA b] (.agg ((blockN h b).map wordA)) := by
  unfold blockN
  refine enterO [0, 1, 2, 4, 5, 6, 7, 8, 9, 10, 11, 12, 13, 14, 15, 16, 17, 20, 23, 62, 105, 185] [.cell 4 178] Tryz.func114 ?_
  have z1 : ((b.length : Int) != 64) = false := by rw [hb]; rfl
  repeat (first | refine E1 @z1 ?_ | exact T1 @z1 | refine W0 ?_ | refine O0 ?_ | refine D0 ?_)
  have l1 : ∀ i, (forN (w1Step b) i 0 (List.replicate 64 0)).length = 64 := fun i => forN_inv' (fun w : List UInt32 => w.length = 64) (fun i w h => by simp [w1Step, h]) _ _ _ (by simp)
  refine loop_inv (α := {i : Nat // i ≤ 16}) (fun i => ⟨[(1, bytesA b), (2, .vp 0 0), (4, .vp 1 0), (5, .vp 2 0), (6, .int .i64 i.1)], [.var (.agg (h.map wordA)), .var (.agg ((List.replicate 8 (0 : UInt32)).map wordA)), .var (.agg ((forN (w1Step b) i.1 0 (List.replicate 64 0)).map wordA))]⟩) (fun i => 16 - i.1) ⟨0, Nat.zero_le _⟩
    (by exact fitsO [0, 1, 2] (G0) (G0)) (fun ⟨i, hi⟩ => ?_)
  have hli := l1 i
  repeat (first | refine E0 ?_ | exact T0 | refine W0 ?_ | refine O0 ?_ | refine D0 ?_)
  refine onB_d (fun h1 e1 => ?_) (fun h1 e1 => ?_)
  · have w0 : IntKind.i64.wrap (4 * (i : Int)) = ((4 * i : Nat) : Int) := by rw [wrap_i64_small (by omega) (by omega)]; omega
    have w1 : IntKind.i64.wrap (((4 * i : Nat) : Int) + 1) = ((4 * i + 1 : Nat) : Int) := by rw [wrap_i64_small (by omega) (by omega)]; omega
    have w2 : IntKind.i64.wrap (((4 * i : Nat) : Int) + 2) = ((4 * i + 2 : Nat) : Int) := by rw [wrap_i64_small (by omega) (by omega)]; omega
    have w3 : IntKind.i64.wrap (((4 * i : Nat) : Int) + 3) = ((4 * i + 3 : Nat) : Int) := by rw [wrap_i64_small (by omega) (by omega)]; omega
    (first | refine E1 @e1 ?_ | exact T1 @e1)
    refine D2 [35] ?_
    repeat (first | refine E4 @w0 @w1 @w2 @w3 ?_ | exact T4 @w0 @w1 @w2 @w3 | refine W0 ?_ | refine O0 ?_ | refine D0 ?_)
    refine ⟨⟨i + 1, by omega⟩, _, fitsO [0, 1, 2] (G0) (G3 @forN_snoc @w1Step.eq_1 @wordN.eq_1), by simp; omega⟩
  · have hi16 : i = 16 := by omega
    subst hi16
    repeat (first | refine E1 @e1 ?_ | exact T1 @e1 | refine W0 ?_ | refine O0 ?_ | refine D0 ?_)
    generalize hW1 : forN (w1Step b) 16 0 (List.replicate 64 0) = W1 at hli
    have l2 : ∀ j, (forN w2Step j 16 W1).length = 64 := fun j => forN_inv' (fun w : List UInt32 => w.length = 64) (fun i w h => by simp [w2Step, h]) _ _ _ hli
    refine loop_inv (α := {j : Nat // j ≤ 48}) (fun j => ⟨[(1, bytesA b), (2, .vp 0 0), (4, .vp 1 0), (5, .vp 2 0), (7, .int .i64 (16 + j.1 : Nat))], [.var (.agg (h.map wordA)), .var (.agg ((List.replicate 8 (0 : UInt32)).map wordA)), .var (.agg ((forN w2Step j.1 16 W1).map wordA))]⟩) (fun j => 48 - j.1) ⟨0, Nat.zero_le _⟩
      (by exact fitsO [0, 1, 2] (G0) (G0)) (fun ⟨j, hj⟩ => ?_)
    have hlj := l2 j
    repeat (first | refine E0 ?_ | exact T0 | refine W0 ?_ | refine O0 ?_ | refine D0 ?_)
    refine onB_d (fun h2 e2 => ?_) (fun h2 e2 => ?_)
    · have w15 : IntKind.i64.wrap (((16 + j : Nat) : Int) - 15) = ((16 + j - 15 : Nat) : Int) := by rw [wrap_i64_small (by omega) (by omega)]; omega
      have w16 : IntKind.i64.wrap (((16 + j : Nat) : Int) - 16) = ((16 + j - 16 : Nat) : Int) := by rw [wrap_i64_small (by omega) (by omega)]; omega
      have w7 : IntKind.i64.wrap (((16 + j : Nat) : Int) - 7) = ((16 + j - 7 : Nat) : Int) := by rw [wrap_i64_small (by omega) (by omega)]; omega
      have w2 : IntKind.i64.wrap (((16 + j : Nat) : Int) - 2) = ((16 + j - 2 : Nat) : Int) := by rw [wrap_i64_small (by omega) (by omega)]; omega
      generalize hX : forN w2Step j 16 W1 = X at hlj
      (first | refine E1 @e2 ?_ | exact T1 @e2)
      refine D2 [] ?_
      repeat (first | refine E2 @w15 @w2 ?_ | exact T2 @w15 @w2 | refine W0 ?_ | refine O0 ?_)
      refine D2 [29] ?_
      repeat (first | refine E1 @w16 ?_ | exact T1 @w16 | refine W0 ?_ | refine O0 ?_ | refine D0 ?_)
      refine Q0 (turned_pure (X.getD (16 + j - 15) 0) 7 (by omega) (by omega)) ?_
      repeat (first | refine E0 ?_ | exact T0 | refine W0 ?_ | refine O0 ?_ | refine D0 ?_)
      refine Q0 (turned_pure (X.getD (16 + j - 15) 0) 18 (by omega) (by omega)) ?_
      repeat (first | refine E1 @w7 ?_ | exact T1 @w7 | refine W0 ?_ | refine O0 ?_ | refine D0 ?_)
      refine Q0 (turned_pure (X.getD (16 + j - 2) 0) 17 (by omega) (by omega)) ?_
      repeat (first | refine E0 ?_ | exact T0 | refine W0 ?_ | refine O0 ?_ | refine D0 ?_)
      refine Q0 (turned_pure (X.getD (16 + j - 2) 0) 19 (by omega) (by omega)) ?_
      repeat (first | refine E0 ?_ | exact T0 | refine W0 ?_ | refine O0 ?_ | refine D0 ?_)
      refine ⟨⟨j + 1, by omega⟩, _, fitsO [0, 1, 2] (G0) (G3 @forN_snoc @w2Step.eq_1 @hX), by simp; omega⟩
    · have hj48 : j = 48 := by omega
      subst hj48
      repeat (first | refine E1 @e2 ?_ | exact T1 @e2 | refine W0 ?_ | refine O0 ?_ | refine D0 ?_)
      have hkl : kN.length = 64 := rfl
      refine C0 (words_pure) ?_
      repeat (first | refine E2 @hh @hkl ?_ | exact T2 @hh @hkl | refine W0 ?_ | refine O0 ?_ | refine D0 ?_)
      have hW : forN w2Step 48 16 W1 = wordsN b := by rw [← hW1]; rfl
      rw [hW] at hlj ⊢
      generalize wordsN b = W at hlj
      have l3 : ∀ t, (forN (rStep W) t 0 h).length = 8 := fun t => forN_inv' (fun s : List UInt32 => s.length = 8) (fun i s _ => by simp [rStep]) _ _ _ hh
      refine loop_inv (α := {t : Nat // t ≤ 64}) (fun t => ⟨[(2, .vp 0 0), (4, .vp 1 0), (5, .vp 2 0), (10, .vp 3 0), (11, .vp 4 0), (12, .int .i64 t.1)], [.var (.agg (h.map wordA)), .var (.agg ((List.replicate 8 (0 : UInt32)).map wordA)), .var (.agg (W.map wordA)), .var (.agg (kN.map wordA)), .var (.agg ((forN (rStep W) t.1 0 h).map wordA))]⟩) (fun t => 64 - t.1) ⟨0, Nat.zero_le _⟩
        (by exact fitsO [0, 1, 2, 3, 4] (by (first | refine E0 ?_ | exact T0)) (by (first | refine E2 @forN.eq_1 @forN.eq_2 ?_ | exact T2 @forN.eq_1 @forN.eq_2))) (fun ⟨t, ht⟩ => ?_)
      have hlt := l3 t
      repeat (first | refine E0 ?_ | exact T0 | refine W0 ?_ | refine O0 ?_ | refine D0 ?_)
      refine onB_d (fun h3 e3 => ?_) (fun h3 e3 => ?_)
      · generalize hS : forN (rStep W) t 0 h = S at hlt
        (first | refine E1 @e3 ?_ | exact T1 @e3)
        refine D2 [] ?_
        repeat (first | refine E0 ?_ | exact T0 | refine W0 ?_ | refine O0 ?_)
        refine D2 [] ?_
        repeat (first | refine E0 ?_ | exact T0 | refine W0 ?_ | refine O0 ?_)
        refine Q0 (turned_pure (S.getD 4 0) 6 (by omega) (by omega)) ?_
        repeat (first | refine E0 ?_ | exact T0 | refine W0 ?_ | refine O0 ?_)
        refine Q0 (turned_pure (S.getD 4 0) 11 (by omega) (by omega)) ?_
        repeat (first | refine E0 ?_ | exact T0 | refine W0 ?_ | refine O0 ?_)
        refine Q0 (turned_pure (S.getD 4 0) 25 (by omega) (by omega)) ?_
        repeat (first | refine E0 ?_ | exact T0 | refine W0 ?_ | refine O0 ?_)
        refine D2 [] ?_
        repeat (first | refine E0 ?_ | exact T0 | refine W0 ?_ | refine O0 ?_)
        refine Q0 (turned_pure (S.getD 0 0) 2 (by omega) (by omega)) ?_
        repeat (first | refine E0 ?_ | exact T0 | refine W0 ?_ | refine O0 ?_)
        refine Q0 (turned_pure (S.getD 0 0) 13 (by omega) (by omega)) ?_
        repeat (first | refine E0 ?_ | exact T0 | refine W0 ?_ | refine O0 ?_)
        refine Q0 (turned_pure (S.getD 0 0) 22 (by omega) (by omega)) ?_
        repeat (first | refine E1 @hlt ?_ | exact T1 @hlt | refine W0 ?_ | refine O0 ?_)
        refine ⟨⟨t + 1, by omega⟩, _, fitsO [0, 1, 2, 3, 4] (G0) ?_, by simp; omega⟩
        (first | refine E4 @forN_snoc @rStep.eq_1 @wordA.eq_1 @hS ?_ | exact T4 @forN_snoc @rStep.eq_1 @wordA.eq_1 @hS)
      · have ht64 : t = 64 := by omega
        subst ht64
        repeat (first | refine E1 @e3 ?_ | exact T1 @e3 | refine W0 ?_ | refine O0 ?_ | refine D0 ?_)
        generalize hS : forN (rStep W) 64 0 h = S at hlt
        have l4 : ∀ i, (forN (hStep S) i 0 h).length = 8 := fun t => forN_inv' (fun s : List UInt32 => s.length = 8) (fun i s hs => by simp [hStep, hs]) _ _ _ hh
        refine loop_inv (α := {i : Nat // i ≤ 8}) (fun i => ⟨[(2, .vp 0 0), (4, .vp 1 0), (11, .vp 2 0), (17, .int .i64 i.1)], [.var (.agg ((forN (hStep S) i.1 0 h).map wordA)), .var (.agg ((List.replicate 8 (0 : UInt32)).map wordA)), .var (.agg (S.map wordA))]⟩) (fun i => 8 - i.1) ⟨0, Nat.zero_le _⟩
          (by exact fitsO [0, 1, 4] (by (first | refine E0 ?_ | exact T0)) (by (first | refine E2 @forN.eq_1 @forN.eq_2 ?_ | exact T2 @forN.eq_1 @forN.eq_2))) (fun ⟨i, hi⟩ => ?_)
        have hli4 := l4 i
        repeat (first | refine E0 ?_ | exact T0 | refine W0 ?_ | refine O0 ?_ | refine D0 ?_)
        refine onB_d (fun h5 e5 => ?_) (fun h5 e5 => ?_)
        · (first | refine E1 @e5 ?_ | exact T1 @e5)
          refine D2 [9] ?_
          repeat (first | refine E0 ?_ | exact T0 | refine W0 ?_ | refine O0 ?_)
          exact ⟨⟨i + 1, by omega⟩, _, fitsO [0, 1, 2] (G0) (G2 @forN_snoc @hStep.eq_1), by simp; omega⟩
        · have hi8 : i = 8 := by omega
          subst hi8
          repeat (first | refine E2 @e5 @hli4 ?_ | exact T2 @e5 @hli4 | refine W0 ?_ | refine O0 ?_ | refine D0 ?_)
end
section
open Go Go.AM Go.Proofs
set_option maxRecDepth 10000
set_option maxHeartbeats 800000
set_option linter.all false
theorem rep_snoc (i : Nat) : List.replicate (i + 1) (0 : UInt8) = List.replicate i 0 ++ [0] := List.replicate_succ'
theorem range_snoc {α : Type} (f : Nat → α) (i : Nat) : (List.range (i + 1)).map f = (List.range i).map f ++ [f i] := by rw [List.range_succ]; simp
theorem range_snocF {α : Type} (f : Nat → List α) (i : Nat) : (List.range (i + 1)).flatMap f = (List.range i).flatMap f ++ f i := by rw [List.range_succ]; simp
theorem sha_pure (b : List UInt8) (hb : b.length < 1000000) : Pure Tryz.prog 49 [bytesA b] (bytesA (shaN b)) := by
  refine enterO [0, 2, 3, 4, 5, 6, 7, 8, 17, 26, 40, 48] [.tmp 2] Tryz.func49 ?_
  have h128 : byteA 128 = .int .u8 128 := rfl
  have hb0 : byteA 0 = .int .u8 0 := rfl
  repeat (first | refine E0 ?_ | exact T0 | refine W0 ?_ | refine O0 ?_ | refine D0 ?_)
  refine loop_inv (α := {i : Nat // i ≤ (119 - b.length % 64) % 64}) (fun i => ⟨[(0, bytesA b), (2, .nils), (3, slV 0 1 (b ++ [0x80] ++ List.replicate i.1 (0 : UInt8)).length)], [rowB true 1 ((b ++ [0x80] ++ List.replicate i.1 (0 : UInt8)).map byteA)]⟩) (fun i => (119 - b.length % 64) % 64 - i.1) ⟨0, Nat.zero_le _⟩
    (by exact fitsO [3] (G0) (G1 @h128)) (fun ⟨i, hi⟩ => ?_)
  simp only
  have hX2 : b ++ [0x80] ++ List.replicate (i + 1) (0 : UInt8) = b ++ [0x80] ++ List.replicate i (0 : UInt8) ++ [0] := by rw [rep_snoc]; simp only [List.append_assoc]
  have hXl : (b ++ [0x80] ++ List.replicate i (0 : UInt8)).length = b.length + 1 + i := by simp; omega
  generalize hX : b ++ [0x80] ++ List.replicate i (0 : UInt8) = X at *
  repeat (first | refine E0 ?_ | exact T0 | refine W0 ?_ | refine O0 ?_ | refine D0 ?_)
  refine onB_split (fun h1 => ?_) (fun h1 => ?_)
  · have h2 : X.length % 64 ≠ 56 := by
      intro q
      have q2 : (X.length : Int) % 64 = 56 := by omega
      rw [q2] at h1
      exact absurd h1 (by decide)
    repeat (first | refine E1 @h1 ?_ | exact T1 @h1 | refine W0 ?_ | refine O0 ?_ | refine D0 ?_)
    have hX3 : b.length + 1 + (i + 1) = X.length + 1 := by omega
    exact ⟨⟨i + 1, by omega⟩, _, fitsO [2] (G1 @hX3) (G2 @hX2 @hb0), by simp; omega⟩
  · have h2 : X.length % 64 = 56 := by
      have : (X.length : Int) % 64 = 56 := by simpa using h1
      omega
    have hiK : i = (119 - b.length % 64) % 64 := by omega
    repeat (first | refine E1 @h1 ?_ | exact T1 @h1 | refine W0 ?_ | refine O0 ?_ | refine D0 ?_)
    have hXp : padN b = X ++ (List.range 8).map fun i => ((UInt64.ofNat b.length * 8) >>> UInt64.ofNat (56 - 8 * i)).toUInt8 := by rw [padN, ← hX, hiK]
    have hL : ((b.length : Int) * 8) = ((UInt64.ofNat b.length * 8).toNat : Int) := by
      rw [UInt64.toNat_mul, UInt64.toNat_ofNat']
      have : (8 : UInt64).toNat = 8 := rfl
      rw [this]
      omega
    generalize UInt64.ofNat b.length * 8 = L at *
    rw [hL]
    generalize hF : (fun i => (L >>> UInt64.ofNat (56 - 8 * i)).toUInt8) = F at *
    refine loop_inv (α := {j : Nat // j ≤ 8}) (fun j => ⟨[(0, bytesA b), (2, .nils), (3, slV 0 1 (X ++ (List.range j.1).map F).length), (4, .int .u64 L.toNat), (5, .int .i64 (56 - 8 * (j.1 : Int)))], [rowB true 1 ((X ++ (List.range j.1).map F).map byteA)]⟩) (fun j => 8 - j.1) ⟨0, Nat.zero_le _⟩
      (by exact fitsO [0] (G0) (G0)) (fun ⟨j, hj⟩ => ?_)
    simp only
    have hY2 : X ++ (List.range (j + 1)).map F = X ++ (List.range j).map F ++ [F j] := by rw [range_snoc, List.append_assoc]
    have hYl : (X ++ (List.range j).map F).length = X.length + j := by simp
    generalize hY : X ++ (List.range j).map F = Y at *
    repeat (first | refine E0 ?_ | exact T0 | refine W0 ?_ | refine O0 ?_ | refine D0 ?_)
    refine onB_d (fun h3 e3 => ?_) (fun h3 e3 => ?_)
    · have hj7 : j ≤ 7 := by omega
      have w1 : IntKind.u64.wrap (56 - 8 * (j : Int)) = ((56 - 8 * j : Nat) : Int) := by rw [wrap_u64_small (by omega) (by omega)]; omega
      have w2 := u64_shr L (show 56 - 8 * j < 64 by omega)
      have hFj : F j = (L >>> UInt64.ofNat (56 - 8 * j)).toUInt8 := by rw [← hF]
      repeat (first | refine E3 @e3 @w1 @w2 ?_ | exact T3 @e3 @w1 @w2 | refine W0 ?_ | refine O0 ?_ | refine D0 ?_)
      have hrl : (List.range (j + 1)).length = j + 1 := List.length_range
      have hYl2 : X.length + (j + 1) = Y.length + 1 := by omega
      have hc5 : 56 - 8 * ((j : Int) + 1) = 56 - 8 * (j : Int) - 8 := by omega
      generalize (L >>> UInt64.ofNat (56 - 8 * j)).toUInt8 = c at *
      have hsn : List.map byteA Y ++ [AV.int .u8 c.toNat] = (Y ++ [c]).map byteA := by rw [List.map_append]; rfl
      exact ⟨⟨j + 1, by omega⟩, _, fitsO [2] (G3 @hrl @hYl2 @hc5) (by simp only [hY2, hFj]; exact G1 @hsn), by simp; omega⟩
    · have hj8 : j = 8 := by omega
      subst hj8
      repeat (first | refine E1 @e3 ?_ | exact T1 @e3 | refine W0 ?_ | refine O0 ?_ | refine D0 ?_)
      rw [hY] at hXp
      have hY64 : Y.length % 64 = 0 := by omega
      have hYm : Y.length < 2000000 := by omega
      have hYb : Y.length ≤ b.length + 100 := by omega
      have hh0 : h0N.map wordA = [.int .u32 1779033703, .int .u32 3144134277, .int .u32 1013904242, .int .u32 2773480762, .int .u32 1359893119, .int .u32 2600822924, .int .u32 528734635, .int .u32 1541459225] := rfl
      refine loop_t [3] (α := {p : List UInt32 × List UInt8 // p.1.length = 8 ∧ p.2.length % 64 = 0 ∧ p.2.length < 2000000 ∧ ∃ k, p.2.length ≤ k ∧ blocksGo k p.1 p.2 = blocksGo (b.length + 100) h0N Y})
        (fun p => ⟨[(2, .nils), (3, bytesA p.1.2), (6, .vp 0 0)], [.var (.agg (p.1.1.map wordA))]⟩) (fun p => p.1.2.length) ⟨(h0N, Y), rfl, hY64, hYm, b.length + 100, hYb, rfl⟩
        (by exact fitsO [1] (G0) (G1 @hh0)) (fun ⟨⟨h, x⟩, q1, q2, q3, k, q4, q5⟩ => ?_)
      simp only at q1 q2 q3 q4 q5
      simp only
      repeat (first | refine E0 ?_ | exact T0 | refine W0 ?_ | refine O0 ?_ | refine D0 ?_)
      refine onB_d (fun h4 e4 => ?_) (fun h4 e4 => ?_)
      · have hx64 : 64 ≤ x.length := by omega
        (first | refine E1 @e4 ?_ | exact T1 @e4)
        refine D2 [4] ?_
        repeat (first | refine E1 @q1 ?_ | exact T1 @q1 | refine W0 ?_ | refine O0 ?_)
        refine Q0 (block_pure h (x.take 64) q1 (by simp; omega)) ?_
        have hbl := blockN_len h (x.take 64)
        repeat (first | refine E1 @q1 ?_ | exact T1 @q1 | refine W0 ?_ | refine O0 ?_)
        obtain ⟨k, rfl⟩ : ∃ k', k = k' + 1 := ⟨k - 1, by omega⟩
        rw [blocksGo, if_neg (by intro q; rw [q] at hx64; simp at hx64)] at q5
        refine ⟨[], ⟨(blockN h (x.take 64), x.drop 64), by rw [hbl]; exact q1, by simp; omega, by simp; omega, k, by simp; omega, q5⟩, _, fitsO [0] (G0) (G2 @hbl @q1), by simp; omega⟩
      · have hx0 : x = [] := List.eq_nil_of_length_eq_zero (by omega)
        subst hx0
        have hR : h = blocksGo (b.length + 100) h0N Y := by rw [← q5]; cases k <;> rfl
        repeat (first | refine E1 @e4 ?_ | exact T1 @e4 | refine W0 ?_ | refine O0 ?_ | refine D0 ?_)
        generalize hG : (fun i => [(h.getD i 0 >>> 24).toUInt8, (h.getD i 0 >>> 16).toUInt8, (h.getD i 0 >>> 8).toUInt8, (h.getD i 0).toUInt8]) = G
        refine loop_inv (α := {i : Nat // i ≤ 8}) (fun i => ⟨[(2, .nils), (6, .vp 0 0), (7, slV 1 1 ((List.range i.1).flatMap G).length), (8, .int .i64 i.1)], [.var (.agg (h.map wordA)), rowB true 1 (((List.range i.1).flatMap G).map byteA)]⟩) (fun i => 8 - i.1) ⟨0, Nat.zero_le _⟩
          (by exact fitsO [0, 1] (G0) (G0)) (fun ⟨m, hm⟩ => ?_)
        simp only
        have hZ2 : (List.range (m + 1)).flatMap G = (List.range m).flatMap G ++ G m := range_snocF G m
        have hZl : ((List.range m).flatMap G).length ≤ 4 * 8 := by
          have : ∀ n, ((List.range n).flatMap G).length = 4 * n := fun n => by
            induction n with
            | zero => rfl
            | succ n ih => rw [range_snocF, List.length_append, ih, ← hG]; simp; omega
          rw [this]; omega
        generalize hZ : (List.range m).flatMap G = Z at *
        have hGm : G m = [(h.getD m 0 >>> 24).toUInt8, (h.getD m 0 >>> 16).toUInt8, (h.getD m 0 >>> 8).toUInt8, (h.getD m 0).toUInt8] := by rw [← hG]
        repeat (first | refine E0 ?_ | exact T0 | refine W0 ?_ | refine O0 ?_ | refine D0 ?_)
        refine onB_d (fun h6 e6 => ?_) (fun h6 e6 => ?_)
        · have hm8 : m < h.length := by omega
          (first | refine E1 @e6 ?_ | exact T1 @e6)
          refine D3 [20, 21] [0] 23 ?_
          repeat (first | refine E0 ?_ | exact T0 | refine W0 ?_ | refine O0 ?_)
          have hsn : List.map byteA Z ++ [AV.int .u8 (h.getD m 0 >>> 24).toUInt8.toNat, AV.int .u8 (h.getD m 0 >>> 16).toUInt8.toNat, AV.int .u8 (h.getD m 0 >>> 8).toUInt8.toNat, AV.int .u8 (h.getD m 0).toUInt8.toNat] = (Z ++ G m).map byteA := by rw [List.map_append, hGm]; rfl
          have hZ4 : (Z ++ G m).length = Z.length + 4 := by rw [List.length_append, hGm]; rfl
          exact ⟨⟨m + 1, by omega⟩, _, fitsO [0, 3] (by simp only [hZ2, hZ4]; exact G0) (by simp only [hZ2]; exact G1 @hsn), by simp; omega⟩
        · have hm8 : m = 8 := by omega
          subst hm8
          repeat (first | refine E1 @e6 ?_ | exact T1 @e6 | refine W0 ?_ | refine O0 ?_ | refine D0 ?_)
          have hfin : shaN b = Z := by rw [shaN, hXp, ← hR, outN, hG]; exact hZ
          rw [hfin]
end
section
open Go Go.AM Go.Proofs
set_option maxRecDepth 10000
set_option linter.all false
theorem tag_pure (t : UInt8) : Pure Tryz.prog 271 [.int .u8 t.toNat] (.bool (tagN t)) := by
  unfold tagN
  refine enterO [0, 2] [.tmp 2] Tryz.func271 ?_
  repeat (first | refine E0 ?_ | exact T0 | refine W0 ?_ | refine O0 ?_ | refine D0 ?_)
  refine onB_split (fun h => ?_) (fun h => ?_)
  · repeat (first | refine E1 @h ?_ | exact T1 @h | refine W0 ?_ | refine O0 ?_ | refine D0 ?_)
    all_goals rfl
  · repeat (first | refine E1 @h ?_ | exact T1 @h | refine W0 ?_ | refine O0 ?_ | refine D0 ?_)
    all_goals rfl
theorem part_pure (t : UInt8) : Pure Tryz.prog 272 [.int .u8 t.toNat] (.bool (partN t)) := by
  unfold partN
  refine enterO [0, 2] [.tmp 2] Tryz.func272 ?_
  repeat (first | refine E0 ?_ | exact T0 | refine W0 ?_ | refine O0 ?_ | refine D0 ?_)
theorem count_pure (n : Nd) (hn : sizeNd n < 1000000) : Pure Tryz.prog 200 [nodeA n] (.int .i64 (countN n)) := by
  induction hs : sizeNd n using Nat.strongRecOn generalizing n with
  | _ s ih =>
    subst hs
    obtain ⟨t, b, k⟩ := n
    refine enterO [0, 1, 2, 3, 4, 9] [.tmp 2] Tryz.func200 ?_
    repeat (first | refine E0 ?_ | exact T0 | refine W0 ?_ | refine O0 ?_ | refine D0 ?_)
    have hkl := size_len k
    have hcl := counts_le k
    have hsz : sizeNd (.mk t b k) = 1 + b.length + sizesNd k := rfl
    refine loop_inv (α := {i : Nat // i ≤ k.length}) (fun i => ⟨[(1, .vp 0 0), (3, .int .i64 (countsN (k.take i.1) + 1 : Nat)), (4, .int .i64 i.1)], [.var (nodeA (.mk t b k))]⟩) (fun i => k.length - i.1) ⟨0, Nat.zero_le _⟩
      (by exact fitsO [0] (G2 @countsN.eq_1 @countsN.eq_2) (G0)) (fun ⟨i, hi⟩ => ?_)
    have hct := counts_take_le k i
    repeat (first | refine E0 ?_ | exact T0 | refine W0 ?_ | refine O0 ?_ | refine D0 ?_)
    refine onB_d (fun h e => ?_) (fun h e => ?_)
    · have hik : i < k.length := by omega
      repeat (first | refine E2 @e (nodes_getD hik) ?_ | exact T2 @e (nodes_getD hik) | refine W0 ?_ | refine O0 ?_ | refine D0 ?_)
      have hlt := size_get (t := t) (b := b) hik
      refine C0 (ih _ hlt (k.getD i default) (by omega) rfl) ?_
      have hc1 := count_le (k.getD i default)
      have hc2 := counts_take hik
      have w1 : IntKind.i64.wrap (((countsN (k.take i) + 1 : Nat) : Int) + countN (k.getD i default)) = ((countsN (k.take (i + 1)) + 1 : Nat) : Int) := by rw [hc2, wrap_i64_small (by omega) (by omega)]; omega
      repeat (first | refine E1 @w1 ?_ | exact T1 @w1 | refine W0 ?_ | refine O0 ?_ | refine D0 ?_)
      exact ⟨⟨i + 1, by omega⟩, _, fitsO [0] (G0) (G0), by simp; omega⟩
    · have hik : i = k.length := by omega
      subst hik
      repeat (first | refine E1 @e ?_ | exact T1 @e | refine W0 ?_ | refine O0 ?_ | refine D0 ?_)
      simp only [List.take_length, countN]
theorem sound_pure (n : Nd) (deep : Nat) (hn : sizeNd n < 1000000) (hd : deep < 1000000) : Pure Tryz.prog 199 [nodeA n, .int .i64 deep] (.bool (soundN n deep)) := by
  induction hs : sizeNd n using Nat.strongRecOn generalizing n deep with
  | _ s ih =>
    subst hs
    obtain ⟨t, b, k⟩ := n
    refine enterO [0, 1, 2, 4, 5, 36, 41, 52] [.tmp 4] Tryz.func199 ?_
    repeat (first | refine E0 ?_ | exact T0 | refine W0 ?_ | refine O0 ?_ | refine D0 ?_)
    refine C0 (tag_pure t) ?_
    repeat (first | refine E0 ?_ | exact T0 | refine W0 ?_ | refine O0 ?_ | refine D0 ?_)
    have hkl := size_len k
    have hsz : sizeNd (.mk t b k) = 1 + b.length + sizesNd k := rfl
    cases ht : tagN t with
    | false => repeat (first | refine E1 @ht ?_ | exact T1 @ht | refine W0 ?_ | refine O0 ?_ | refine D0 ?_); simp [soundN, ht]
    | true =>
      repeat (first | refine E1 @ht ?_ | exact T1 @ht | refine W0 ?_ | refine O0 ?_ | refine D0 ?_)
      refine onB_d (fun h1 e1 => ?_) (fun h1 e1 => ?_)
      · repeat (first | refine E1 @e1 ?_ | exact T1 @e1 | refine W0 ?_ | refine O0 ?_ | refine D0 ?_)
        simp [soundN, show 12 < deep by omega]
      · repeat (first | refine E1 @e1 ?_ | exact T1 @e1 | refine W0 ?_ | refine O0 ?_ | refine D0 ?_)
        have hd12 : ¬ 12 < deep := by omega
        refine C0 (part_pure t) ?_
        cases hp : partN t with
        | false =>
          repeat (first | refine E1 @hp ?_ | exact T1 @hp | refine W0 ?_ | refine O0 ?_ | refine D0 ?_)
          refine C0 (part_pure t) ?_
          repeat (first | refine E1 @hp ?_ | exact T1 @hp | refine W0 ?_ | refine O0 ?_ | refine D0 ?_)
          refine onB_d (fun h2 e2 => ?_) (fun h2 e2 => ?_)
          · repeat (first | refine E1 @e2 ?_ | exact T1 @e2 | refine W0 ?_ | refine O0 ?_ | refine D0 ?_)
            simp [soundN, ht, hp, show 0 < k.length by omega]
          · have hk : k = [] := List.eq_nil_of_length_eq_zero (by omega)
            subst hk
            repeat (first | refine E1 @e2 ?_ | exact T1 @e2 | refine W0 ?_ | refine O0 ?_ | refine D0 ?_)
            refine loop_inv (α := Unit) (fun _ => ⟨[(2, .vp 0 0), (5, .int .i64 0)], [.var (nodeA (.mk t b []))]⟩) (fun _ => 0) ()
              (by exact fitsO [0] (G0) (G0)) (fun _ => ?_)
            repeat (first | refine E0 ?_ | exact T0 | refine W0 ?_ | refine O0 ?_ | refine D0 ?_)
            simp [soundN, soundsN, ht, hp, hd12]
        | true =>
          repeat (first | refine E1 @hp ?_ | exact T1 @hp | refine W0 ?_ | refine O0 ?_ | refine D0 ?_)
          refine onB_d (fun h2 e2 => ?_) (fun h2 e2 => ?_)
          · repeat (first | refine E1 @e2 ?_ | exact T1 @e2 | refine W0 ?_ | refine O0 ?_ | refine D0 ?_)
            simp [soundN, ht, hp, show 0 < b.length by omega]
          · have hb : b = [] := List.eq_nil_of_length_eq_zero (by omega)
            subst hb
            repeat (first | refine E1 @e2 ?_ | exact T1 @e2 | refine W0 ?_ | refine O0 ?_ | refine D0 ?_)
            refine C0 (part_pure t) ?_
            repeat (first | refine E1 @hp ?_ | exact T1 @hp | refine W0 ?_ | refine O0 ?_ | refine D0 ?_)
            have hfin : soundN (.mk t [] k) deep = soundsN k (deep + 1) := by simp [soundN, ht, hp, hd12]
            rw [hfin]
            refine loop_inv (α := {i : Nat // i ≤ k.length ∧ soundsN (k.drop i) (deep + 1) = soundsN k (deep + 1)}) (fun i => ⟨[(1, .int .i64 deep), (2, .vp 0 0), (5, .int .i64 i.1)], [.var (nodeA (.mk t [] k))]⟩) (fun i => k.length - i.1) ⟨0, Nat.zero_le _, rfl⟩
              (by exact fitsO [0] (G0) (G0)) (fun ⟨i, hi, hs⟩ => ?_)
            have w1 : IntKind.i64.wrap ((deep : Int) + 1) = ((deep + 1 : Nat) : Int) := by rw [wrap_i64_small (by omega) (by omega)]; omega
            repeat (first | refine E0 ?_ | exact T0 | refine W0 ?_ | refine O0 ?_ | refine D0 ?_)
            refine onB_d (fun h3 e3 => ?_) (fun h3 e3 => ?_)
            · have hik : i < k.length := by omega
              repeat (first | refine E3 @e3 (nodes_getD hik) @w1 ?_ | exact T3 @e3 (nodes_getD hik) @w1 | refine W0 ?_ | refine O0 ?_ | refine D0 ?_)
              have hlt := size_get (t := t) (b := []) hik
              refine C0 (ih _ hlt (k.getD i default) (deep + 1) (by omega) (by omega) rfl) ?_
              rw [sounds_drop hik] at hs
              repeat (first | refine E0 ?_ | exact T0 | refine W0 ?_ | refine O0 ?_ | refine D0 ?_)
              refine onB_split (fun h4 => ?_) (fun h4 => ?_)
              · rw [h4, Bool.true_and] at hs
                repeat (first | refine E1 @h4 ?_ | exact T1 @h4 | refine W0 ?_ | refine O0 ?_ | refine D0 ?_)
                exact ⟨⟨i + 1, by omega, hs⟩, _, fitsO [0] (G0) (G0), by simp; omega⟩
              · rw [h4, Bool.false_and] at hs
                repeat (first | refine E1 @h4 ?_ | exact T1 @h4 | refine W0 ?_ | refine O0 ?_ | refine D0 ?_)
                rw [← hs]
            · have hik : i = k.length := by omega
              subst hik
              repeat (first | refine E1 @e3 ?_ | exact T1 @e3 | refine W0 ?_ | refine O0 ?_ | refine D0 ?_)
              rw [← hs]
              simp [soundsN]
theorem length_pure (n : Nat) (hn : n < 2 ^ 40) : Pure Tryz.prog 201 [.int .i64 n] (bytesA (lengthN n)) := by
  unfold lengthN
  refine enterO [0, 2, 3, 4, 6, 12] [.tmp 2] Tryz.func201 ?_
  repeat (first | refine E0 ?_ | exact T0 | refine W0 ?_ | refine O0 ?_ | refine D0 ?_)
  refine onB_d (fun h e => ?_) (fun h e => ?_)
  · repeat (first | refine E2 @e @u8_nat ?_ | exact T2 @e @u8_nat | refine W0 ?_ | refine O0 ?_ | refine D0 ?_)
    rw [if_pos (by omega)]
    rfl
  · rw [if_neg (by omega)]
    repeat (first | refine E1 @e ?_ | exact T1 @e | refine W0 ?_ | refine O0 ?_ | refine D0 ?_)
    refine loop_inv (α := {p : Nat × Nat × List UInt8 // p.2.1 < 256 ^ p.1 ∧ p.1 ≤ 8 ∧ p.2.2.length + p.1 ≤ 8 ∧ p.2.1 ≤ n ∧ bigGo p.1 p.2.1 p.2.2 = bigGo 8 n []}) (fun p => ⟨[(3, slV 0 1 p.1.2.2.length), (4, .int .i64 p.1.2.1)], [rowB true 1 (p.1.2.2.map byteA)]⟩) (fun p => p.1.2.1) ⟨(8, n, []), by simp only; omega, by simp, by simp, by simp, rfl⟩
      (by exact fitsO [0] (G0) (G0)) (fun ⟨⟨k, x, b⟩, hx, hk, hbl, hxn, hd⟩ => ?_)
    simp only at hx hk hd hbl hxn
    have w1 : (x : Int).tmod 256 = (x % 256 : Nat) := by rw [tmod_cast (by omega) (by omega)]; omega
    have w2 : IntKind.i64.wrap ((x : Int).tdiv 256) = (x / 256 : Nat) := by rw [tdiv_cast (by omega) (by omega), wrap_i64_small (by omega) (by omega)]; omega
    repeat (first | refine E0 ?_ | exact T0 | refine W0 ?_ | refine O0 ?_ | refine D0 ?_)
    refine onB_d (fun h2 e2 => ?_) (fun h2 e2 => ?_)
    · repeat (first | refine E4 @e2 @w1 @w2 @u8_nat ?_ | exact T4 @e2 @w1 @w2 @u8_nat | refine W0 ?_ | refine O0 ?_ | refine D0 ?_)
      obtain ⟨k, rfl⟩ : ∃ k', k = k' + 1 := ⟨k - 1, by
        rcases Nat.eq_zero_or_pos k with h0 | h0
        · subst h0; simp at hx; omega
        · omega⟩
      rw [bigGo, if_neg (by omega)] at hd
      refine ⟨⟨(k, x / 256, UInt8.ofNat (x % 256) :: b), ?_, by simp only; omega, by simp; omega, by simp only; omega, hd⟩, _, fitsO [2] (G1 @slV_succ) (G1 @rowB_cons), by simp only; omega⟩
      simp only
      rw [Nat.pow_succ] at hx
      omega
    · have hx0 : x = 0 := by omega
      subst hx0
      have hb0 : bigGo k 0 b = b := by cases k with | zero => rfl | succ k => simp [bigGo]
      rw [hb0] at hd
      have w3 : IntKind.i64.wrap (128 + (b.length : Int)) = ((128 + b.length : Nat) : Int) := by rw [wrap_i64_small (by omega) (by omega)]; omega
      repeat (first | refine E3 @e2 @w3 @u8_nat ?_ | exact T3 @e2 @w3 @u8_nat | refine W0 ?_ | refine O0 ?_ | refine D0 ?_)
      rw [← hd, take_all (by simp; omega)]
      rfl
theorem laid_pure (n : Nd) (hn : sizeNd n < 1000000) : Pure Tryz.prog 116 [nodeA n] (bytesA (laidN n)) := by
  induction hs : sizeNd n using Nat.strongRecOn generalizing n with
  | _ s ih =>
    subst hs
    obtain ⟨t, b, k⟩ := n
    refine enterO [0, 1, 2, 3, 4, 13] [.tmp 2] Tryz.func116 ?_
    have hkl := size_len k
    have hll := laids_len k
    have hsz : sizeNd (.mk t b k) = 1 + b.length + sizesNd k := rfl
    repeat (first | refine E0 ?_ | exact T0 | refine W0 ?_ | refine O0 ?_ | refine D0 ?_)
    refine loop_inv (α := {i : Nat // i ≤ k.length}) (fun i => ⟨[(1, .vp 0 0), (3, slV 1 1 (b ++ laidsN (k.take i.1)).length), (4, .int .i64 i.1)], [.var (nodeA (.mk t b k)), rowB true 1 ((b ++ laidsN (k.take i.1)).map byteA)]⟩) (fun i => k.length - i.1) ⟨0, Nat.zero_le _⟩
      (by exact fitsO [0, 2] (G2 @laidsN.eq_1 @laidsN.eq_2) (G2 @laidsN.eq_1 @laidsN.eq_2)) (fun ⟨i, hi⟩ => ?_)
    simp only
    have hti := laids_len (k.take i)
    have htl := sizes_take_le k i
    have hXl : (b ++ laidsN (k.take i)).length = b.length + (laidsN (k.take i)).length := by simp
    generalize hX : b ++ laidsN (k.take i) = X at hXl
    repeat (first | refine E0 ?_ | exact T0 | refine W0 ?_ | refine O0 ?_ | refine D0 ?_)
    refine onB_d (fun h e => ?_) (fun h e => ?_)
    · have hik : i < k.length := by omega
      repeat (first | refine E2 @e (nodes_getD hik) ?_ | exact T2 @e (nodes_getD hik) | refine W0 ?_ | refine O0 ?_ | refine D0 ?_)
      have hlt := size_get (t := t) (b := b) hik
      have hl2 := laidN_len (k.getD i default)
      refine C0 (ih _ hlt (k.getD i default) (by omega) rfl) ?_
      repeat (first | refine E0 ?_ | exact T0 | refine W0 ?_ | refine O0 ?_ | refine D0 ?_)
      have hX2 : b ++ laidsN (k.take (i + 1)) = X ++ laidN (k.getD i default) := by rw [laids_take hik, ← hX, List.append_assoc]
      have hX3 : b.length + (laidsN (k.take (i + 1))).length = X.length + (laidN (k.getD i default)).length := by rw [← List.length_append, hX2, List.length_append]
      refine ⟨⟨i + 1, by omega⟩, _, fitsO [0, 2] (G1 @hX3) (G1 @hX2), by simp; omega⟩
    · have hik : i = k.length := by omega
      subst hik
      (first | refine E1 @e ?_ | exact T1 @e)
      refine D3 [2, 6, 8] [3, 4, 5, 7] 10 ?_
      repeat (first | refine E0 ?_ | exact T0 | refine W0 ?_ | refine O0 ?_)
      refine Q0 (length_pure X.length (by omega)) ?_
      have hl9 := lengthN_len X.length
      repeat (first | refine E0 ?_ | exact T0 | refine W0 ?_ | refine O0 ?_)
      have hX2 : X = b ++ laidsN k := by rw [← hX, List.take_length]
      have e1 : laidN (Nd.mk t b k) = t :: (lengthN X.length ++ X) := by rw [laidN, ← hX2]
      have e2 : (AV.int IntKind.u8 t.toNat :: List.map byteA (lengthN X.length)) = (t :: lengthN X.length).map byteA := rfl
      rw [e1, e2, List.take_of_length_le (l := List.map byteA (t :: lengthN X.length)) (by simp; omega), ← List.map_append, List.take_of_length_le (by simp; omega)]
      rfl
theorem isNd_pure (n : Nd) (hn : sizeNd n < 1000000) : Pure Tryz.prog 115 [nodeA n] (.bool (isNd n)) := by
  unfold isNd
  refine enterO [0, 1, 2] [.tmp 2] Tryz.func115 ?_
  repeat (first | refine E0 ?_ | exact T0 | refine W0 ?_ | refine O0 ?_ | refine D0 ?_)
  have h1 := sound_pure n 1 hn (by omega)
  have hl := laidN_len n
  refine C0 (h1) ?_
  repeat (first | refine E0 ?_ | exact T0 | refine W0 ?_ | refine O0 ?_ | refine D0 ?_)
  refine onB_split (fun h => ?_) (fun h => ?_)
  · repeat (first | refine E1 @h ?_ | exact T1 @h | refine W0 ?_ | refine O0 ?_ | refine D0 ?_)
    refine C0 (count_pure n hn) ?_
    repeat (first | refine E0 ?_ | exact T0 | refine W0 ?_ | refine O0 ?_ | refine D0 ?_)
    refine onB_d (fun h2 e2 => ?_) (fun h2 e2 => ?_)
    · repeat (first | refine E1 @e2 ?_ | exact T1 @e2 | refine W0 ?_ | refine O0 ?_ | refine D0 ?_)
      refine C0 (laid_pure n hn) ?_
      repeat (first | refine E0 ?_ | exact T0 | refine W0 ?_ | refine O0 ?_ | refine D0 ?_)
      rw [h, decide_eq_true (show countN n ≤ 600 by omega)]
      congr 1
      simp only [Bool.true_and]
      exact decide_eq_decide.2 (by omega)
    · repeat (first | refine E1 @e2 ?_ | exact T1 @e2 | refine W0 ?_ | refine O0 ?_ | refine D0 ?_)
      rw [decide_eq_false (show ¬ countN n ≤ 600 by omega)]
      simp
  · repeat (first | refine E1 @h ?_ | exact T1 @h | refine W0 ?_ | refine O0 ?_ | refine D0 ?_)
    simp [h]
theorem ndBytes_pure (n : Nd) (hn : sizeNd n < 1000000) : Pure Tryz.prog 50 [nodeA n] (bytesA (ndBytes n)) := by
  unfold ndBytes
  refine enterO [0, 1, 2, 5] [.tmp 2] Tryz.func50 ?_
  repeat (first | refine E0 ?_ | exact T0 | refine W0 ?_ | refine O0 ?_ | refine D0 ?_)
  refine C0 (isNd_pure n hn) ?_
  repeat (first | refine E0 ?_ | exact T0 | refine W0 ?_ | refine O0 ?_ | refine D0 ?_)
  refine onB_split (fun h => ?_) (fun h => ?_)
  · repeat (first | refine E1 @h ?_ | exact T1 @h | refine W0 ?_ | refine O0 ?_ | refine D0 ?_)
    refine C0 (laid_pure n hn) ?_
    repeat (first | refine E0 ?_ | exact T0 | refine W0 ?_ | refine O0 ?_ | refine D0 ?_)
    rw [if_pos h]
  · repeat (first | refine E1 @h ?_ | exact T1 @h | refine W0 ?_ | refine O0 ?_ | refine D0 ?_)
    rfl
end
section
open Go Go.AM Go.Proofs
set_option maxRecDepth 10000
set_option linter.all false
theorem prim_pure (t : UInt8) (b : List UInt8) (hb : b.length < 1000000) : Pure Tryz.prog 52 [.int .u8 t.toNat, bytesA b] (nodeA (primN t b)) := by
  refine enterO [0, 1, 4] [.cell 4 69] Tryz.func52 ?_
  repeat (first | refine E0 ?_ | exact T0 | refine W0 ?_ | refine O0 ?_ | refine D0 ?_)
  rfl
theorem int_pure (a : List UInt32) (ha : a.length < 500) (hb : bitsN a / 8 + 1 ≤ 2048) : Pure Tryz.prog 53 [natA a] (nodeA (intN a)) := by
  refine enterO [0, 2, 3] [.cell 2 69] Tryz.func53 ?_
  have hbl := bitsN_le a
  have w1 : IntKind.i64.wrap ((bitsN a : Int).tdiv 8) = (bitsN a / 8 : Nat) := by rw [tdiv_cast (by omega) (by omega), wrap_i64_small (by omega) (by omega)]; omega
  have w2 : IntKind.i64.wrap (((bitsN a / 8 : Nat) : Int) + 1) = (bitsN a / 8 + 1 : Nat) := by rw [wrap_i64_small (by omega) (by omega)]; omega
  repeat (first | refine E0 ?_ | exact T0 | refine W0 ?_ | refine O0 ?_ | refine D0 ?_)
  refine C0 (bits_pure a (by omega)) ?_
  repeat (first | refine E2 @w1 @w2 ?_ | exact T2 @w1 @w2 | refine W0 ?_ | refine O0 ?_ | refine D0 ?_)
  refine C0 (bytes_pure a (bitsN a / 8 + 1) (by omega) (by omega)) ?_
  rw [if_neg (by omega)]
  repeat (first | refine E0 ?_ | exact T0 | refine W0 ?_ | refine O0 ?_ | refine D0 ?_)
  have hl := bytesN_len a (bitsN a / 8 + 1)
  refine C0 (prim_pure 2 (bytesN a (bitsN a / 8 + 1)) (by omega)) ?_
  repeat (first | refine E0 ?_ | exact T0 | refine W0 ?_ | refine O0 ?_ | refine D0 ?_)
  rfl
theorem small_pure (v : UInt64) : Pure Tryz.prog 23 [.int .u64 v.toNat] (nodeA (smallN v)) := by
  refine enterO [0, 2] [.cell 2 69] Tryz.func23 ?_
  repeat (first | refine E0 ?_ | exact T0 | refine W0 ?_ | refine O0 ?_ | refine D0 ?_)
  have h1 := trimN_le [v.toUInt32, (v >>> 32).toUInt32]
  have h2 := bitsN_le (trimN [v.toUInt32, (v >>> 32).toUInt32])
  simp only [List.length_cons, List.length_nil] at h1
  refine C0 (trim_pure [v.toUInt32, (v >>> 32).toUInt32] (by simp)) ?_
  repeat (first | refine E0 ?_ | exact T0 | refine W0 ?_ | refine O0 ?_ | refine D0 ?_)
  refine C0 (int_pure (trimN [v.toUInt32, (v >>> 32).toUInt32]) (by omega) (by omega)) ?_
  repeat (first | refine E0 ?_ | exact T0 | refine W0 ?_ | refine O0 ?_ | refine D0 ?_)
  rfl
theorem bool_pure (v : Bool) : Pure Tryz.prog 22 [.bool v] (nodeA (boolN v)) := by
  refine enterO [0, 2, 3] [.cell 2 69] Tryz.func22 ?_
  repeat (first | refine E0 ?_ | exact T0 | refine W0 ?_ | refine O0 ?_ | refine D0 ?_)
  refine onB_split (fun h => ?_) (fun h => ?_)
  · subst h
    repeat (first | refine E0 ?_ | exact T0 | refine W0 ?_ | refine O0 ?_ | refine D0 ?_)
    refine C0 (prim_pure 1 [255] (by simp)) ?_
    repeat (first | refine E0 ?_ | exact T0 | refine W0 ?_ | refine O0 ?_ | refine D0 ?_)
    rfl
  · subst h
    repeat (first | refine E0 ?_ | exact T0 | refine W0 ?_ | refine O0 ?_ | refine D0 ?_)
    refine C0 (prim_pure 1 [0] (by simp)) ?_
    repeat (first | refine E0 ?_ | exact T0 | refine W0 ?_ | refine O0 ?_ | refine D0 ?_)
    rfl
theorem text_pure (s : List UInt8) (hs : s.length < 1000000) : Pure Tryz.prog 204 [strA s] (nodeA (textN s)) := by
  refine enterO [0, 2] [.cell 2 69] Tryz.func204 ?_
  repeat (first | refine E0 ?_ | exact T0 | refine W0 ?_ | refine O0 ?_ | refine D0 ?_)
  refine C0 (prim_pure 12 s hs) ?_
  repeat (first | refine E0 ?_ | exact T0 | refine W0 ?_ | refine O0 ?_ | refine D0 ?_)
  rfl
theorem octets_pure (b : List UInt8) (hb : b.length < 1000000) : Pure Tryz.prog 164 [bytesA b] (nodeA (octetsN b)) := by
  refine enterO [0, 2] [.cell 2 69] Tryz.func164 ?_
  repeat (first | refine E0 ?_ | exact T0 | refine W0 ?_ | refine O0 ?_ | refine D0 ?_)
  refine C0 (prim_pure 4 b hb) ?_
  repeat (first | refine E0 ?_ | exact T0 | refine W0 ?_ | refine O0 ?_ | refine D0 ?_)
  rfl
theorem bits3_pure (b : List UInt8) (hb : b.length < 999999) : Pure Tryz.prog 165 [bytesA b] (nodeA (bits3N b)) := by
  refine enterO [0, 2] [.cell 2 69] Tryz.func165 ?_
  repeat (first | refine E0 ?_ | exact T0 | refine W0 ?_ | refine O0 ?_ | refine D0 ?_)
  refine C0 (prim_pure 3 (0 :: b) (by simp; omega)) ?_
  repeat (first | refine E0 ?_ | exact T0 | refine W0 ?_ | refine O0 ?_ | refine D0 ?_)
  rfl
theorem id_pure (b : List UInt8) (hb : b.length < 1000000) : Pure Tryz.prog 168 [bytesA b] (nodeA (idN b)) := by
  refine enterO [0, 2] [.cell 2 69] Tryz.func168 ?_
  repeat (first | refine E0 ?_ | exact T0 | refine W0 ?_ | refine O0 ?_ | refine D0 ?_)
  refine C0 (prim_pure 6 b hb) ?_
  repeat (first | refine E0 ?_ | exact T0 | refine W0 ?_ | refine O0 ?_ | refine D0 ?_)
  rfl
theorem seq_pure (t : UInt8) (k : List Nd) : Pure Tryz.prog 21 [.int .u8 t.toNat, tsE 3 (k.map nodeA)] (nodeA (seqN t k)) := by
  refine enterO [0, 1, 4] [.cell 4 69] Tryz.func21 ?_
  repeat (first | refine E0 ?_ | exact T0 | refine W0 ?_ | refine O0 ?_ | refine D0 ?_)
  rw [nodeA_eq]
  rfl
theorem isID_pure (b : List UInt8) (hb : b.length < 1000000) : Pure Tryz.prog 196 [bytesA b] (.bool (isIDN b)) := by
  unfold isIDN
  refine enterO [0, 2, 3, 20, 24, 43] [.tmp 2] Tryz.func196 ?_
  repeat (first | refine E0 ?_ | exact T0 | refine W0 ?_ | refine O0 ?_ | refine D0 ?_)
  refine onB_d (fun h1 e1 => ?_) (fun h1 e1 => ?_)
  · repeat (first | refine E1 @e1 ?_ | exact T1 @e1 | refine W0 ?_ | refine O0 ?_ | refine D0 ?_)
    rw [if_pos (by simp only [Bool.or_eq_true, decide_eq_true_eq]; exact .inl (.inl (by omega)))]
  · have hne : b ≠ [] := by intro h; subst h; simp at h1
    repeat (first | refine E1 @e1 ?_ | exact T1 @e1 | refine W0 ?_ | refine O0 ?_ | refine D0 ?_)
    refine onB_d (fun h2 e2 => ?_) (fun h2 e2 => ?_)
    · repeat (first | refine E1 @e2 ?_ | exact T1 @e2 | refine W0 ?_ | refine O0 ?_ | refine D0 ?_)
      rw [if_pos (by simp only [Bool.or_eq_true, decide_eq_true_eq]; exact .inl (.inr (by omega)))]
    · have w1 : IntKind.i64.wrap ((b.length : Int) - 1) = ((b.length - 1 : Nat) : Int) := by rw [wrap_i64_small (by omega) (by omega)]; omega
      repeat (first | refine E2 @e2 @w1 ?_ | exact T2 @e2 @w1 | refine W0 ?_ | refine O0 ?_ | refine D0 ?_)
      refine onB_d (fun h3 e3 => ?_) (fun h3 e3 => ?_)
      · repeat (first | refine E1 @e3 ?_ | exact T1 @e3 | refine W0 ?_ | refine O0 ?_ | refine D0 ?_)
      · rw [if_neg (by simp only [Bool.or_eq_true, decide_eq_true_eq]; rintro ((h | h) | h) <;> first | omega | exact h3 h)]
        repeat (first | refine E1 @e3 ?_ | exact T1 @e3 | refine W0 ?_ | refine O0 ?_ | refine D0 ?_)
        refine loop_inv (α := {i : Nat // i ≤ b.length ∧ isIDGo b (b.length - i) i = isIDGo b b.length 0}) (fun i => ⟨[(0, bytesA b), (3, .int .i64 i.1)], []⟩) (fun i => b.length - i.1) ⟨0, Nat.zero_le _, rfl⟩
          (by exact fitsO [] (G0) (G0)) (fun ⟨i, hi, hd⟩ => ?_)
        repeat (first | refine E0 ?_ | exact T0 | refine W0 ?_ | refine O0 ?_ | refine D0 ?_)
        refine onB_d (fun h4 e4 => ?_) (fun h4 e4 => ?_)
        · have hfin : isIDGo b (b.length - (i + 1)) (i + 1) = isIDGo b b.length 0 ∨ (isIDGo b b.length 0 = false ∧ b.getD i 0 = 0x80 ∧ (i = 0 ∨ b.getD (i - 1) 0 < 0x80)) := by
            rw [show b.length - i = b.length - (i + 1) + 1 by omega] at hd
            rw [isIDGo] at hd
            split at hd
            · rename_i hc
              simp only [Bool.and_eq_true, Bool.or_eq_true, decide_eq_true_eq, beq_iff_eq] at hc
              exact .inr ⟨hd.symm, hc.1, hc.2⟩
            · exact .inl hd
          have w2 : IntKind.i64.wrap ((i : Int) - 1) = (i : Int) - 1 := by rw [wrap_i64_small (by omega) (by omega)]
          have back : isIDGo b (b.length - (i + 1)) (i + 1) = isIDGo b b.length 0 → ∃ y : {i : Nat // i ≤ b.length ∧ isIDGo b (b.length - i) i = isIDGo b b.length 0}, y.1 = i + 1 := fun h => ⟨⟨i + 1, by omega, h⟩, rfl⟩
          repeat (first | refine E1 @e4 ?_ | exact T1 @e4 | refine W0 ?_ | refine O0 ?_ | refine D0 ?_)
          refine onB_split (fun h5 => ?_) (fun h5 => ?_)
          · have h5' := beq_iff_eq.1 h5
            by_cases h6 : i = 0
            · have hf : isIDGo b b.length 0 = false := by
                rcases hfin with h | ⟨h, _⟩
                · rw [show b.length - i = b.length - (i + 1) + 1 by omega, isIDGo, if_pos (by rw [h5, decide_eq_true h6]; rfl)] at hd
                  rw [← hd]
                · exact h
              have e6 : ((i : Int) == 0) = true := by rw [beq_iff_eq]; omega
              repeat (first | refine E2 @h5 @e6 ?_ | exact T2 @h5 @e6 | refine W0 ?_ | refine O0 ?_ | refine D0 ?_)
              rw [hf]
            · have e6 : ((i : Int) == 0) = false := by rw [beq_eq_false_iff_ne]; omega
              have w3 : ((i : Int) - 1).toNat = i - 1 := by omega
              repeat (first | refine E4 @h5 @e6 @w2 @w3 ?_ | exact T4 @h5 @e6 @w2 @w3 | refine W0 ?_ | refine O0 ?_ | refine D0 ?_)
              refine onB_d (fun h7 e7 => ?_) (fun h7 e7 => ?_)
              · have hf : isIDGo b b.length 0 = false := by
                  rcases hfin with h | ⟨h, _⟩
                  · rw [show b.length - i = b.length - (i + 1) + 1 by omega, isIDGo, if_pos (by rw [h5, e7]; simp)] at hd
                    rw [← hd]
                  · exact h
                repeat (first | refine E1 @e7 ?_ | exact T1 @e7 | refine W0 ?_ | refine O0 ?_ | refine D0 ?_)
                rw [hf]
              · repeat (first | refine E1 @e7 ?_ | exact T1 @e7 | refine W0 ?_ | refine O0 ?_ | refine D0 ?_)
                rcases hfin with h | ⟨_, _, h | h⟩
                · exact ⟨⟨i + 1, by omega, h⟩, _, fitsO [] (G0) (G0), by simp; omega⟩
                · exact absurd h h6
                · exact absurd h h7
          · repeat (first | refine E1 @h5 ?_ | exact T1 @h5 | refine W0 ?_ | refine O0 ?_ | refine D0 ?_)
            rcases hfin with h | ⟨_, h, _⟩
            · exact ⟨⟨i + 1, by omega, h⟩, _, fitsO [] (G0) (G0), by simp; omega⟩
            · rw [h] at h5; cases h5
        · have : i = b.length := by omega
          subst this
          rw [Nat.sub_self] at hd
          repeat (first | refine E1 @e4 ?_ | exact T1 @e4 | refine W0 ?_ | refine O0 ?_ | refine D0 ?_)
          rw [← hd]
          rfl
theorem rune1_pure (c : UInt8) (s : List UInt8) (hs : s.length < 1000000) (hc : c < 0x80) : Pure Tryz.prog 269 [strA (c :: s)] (.int .i64 1) := by
  refine enterO [0, 2, 3, 4, 5, 6, 7, 10, 13, 23, 33, 50, 53, 65, 88] [.tmp 2] Tryz.func269 ?_
  have e : decide (c < 128) = true := decide_eq_true hc
  repeat (first | refine E1 @e ?_ | exact T1 @e | refine W0 ?_ | refine O0 ?_ | refine D0 ?_)
theorem isText_pure (s : List UInt8) (hs : s.length ≤ 64) (hc : ∀ c ∈ s, c < 0x80) : Pure Tryz.prog 193 [strA s] (.bool true) := by
  refine enterO [0, 2, 3, 6, 9, 13] [.tmp 2] Tryz.func193 ?_
  have e : decide ((s.length : Int) > 64) = false := decide_eq_false (by omega)
  repeat (first | refine E1 @e ?_ | exact T1 @e | refine W0 ?_ | refine O0 ?_ | refine D0 ?_)
  refine loop_inv (α := {t : List UInt8 // t.length ≤ 64 ∧ ∀ c ∈ t, c < 0x80}) (fun t => ⟨[(0, strA t.1)], []⟩) (fun t => t.1.length) ⟨s, hs, hc⟩
    (by exact fitsO [] (G0) (G0)) (fun ⟨t, ht, hct⟩ => ?_)
  repeat (first | refine E0 ?_ | exact T0 | refine W0 ?_ | refine O0 ?_ | refine D0 ?_)
  refine onB_d (fun h1 e1 => ?_) (fun h1 e1 => ?_)
  · obtain ⟨c, r, rfl⟩ : ∃ c r, t = c :: r := by
      cases t with
      | nil => simp at h1
      | cons c r => exact ⟨c, r, rfl⟩
    repeat (first | refine E1 @e1 ?_ | exact T1 @e1 | refine W0 ?_ | refine O0 ?_ | refine D0 ?_)
    refine C0 (rune1_pure c r (by simp at ht; omega) (hct c (by simp))) ?_
    repeat (first | refine E0 ?_ | exact T0 | refine W0 ?_ | refine O0 ?_ | refine D0 ?_)
    exact ⟨⟨r, by simp at ht; omega, fun c hc => hct c (by simp [hc])⟩, _, fitsO [] (G0) (G0), by simp⟩
  · repeat (first | refine E1 @e1 ?_ | exact T1 @e1 | refine W0 ?_ | refine O0 ?_ | refine D0 ?_)
end
section
open Go Go.AM Go.Proofs
set_option maxRecDepth 10000
set_option linter.all false
theorem isT_pure (t : Int) (h1 : -631152000 ≤ t) (h2 : t ≤ 253402300799) : Pure Tryz.prog 110 [.int .i64 t] (.bool true) := by
  refine enterO [0, 2] [.tmp 2] Tryz.func110 ?_
  have e1 : decide (t ≥ -631152000) = true := decide_eq_true h1
  have e2 : decide (t ≤ 253402300799) = true := decide_eq_true h2
  repeat (first | refine E2 @e1 @e2 ?_ | exact T2 @e1 @e2 | refine W0 ?_ | refine O0 ?_ | refine D0 ?_)
theorem long_pure (y : Nat) (hy : y < 10000000) : Pure Tryz.prog 273 [.int .i64 y] (.bool (longN y)) := by
  unfold longN
  refine enterO [0, 2] [.tmp 2] Tryz.func273 ?_
  have w1 : (y : Int).tmod 4 = (y % 4 : Nat) := by rw [tmod_cast (by omega) (by omega)]; omega
  have w2 : (y : Int).tmod 100 = (y % 100 : Nat) := by rw [tmod_cast (by omega) (by omega)]; omega
  have w3 : (y : Int).tmod 400 = (y % 400 : Nat) := by rw [tmod_cast (by omega) (by omega)]; omega
  have b1 : (((y % 4 : Nat) : Int) == 0) = decide (y % 4 = 0) := by rw [Bool.eq_iff_iff, beq_iff_eq, decide_eq_true_eq]; omega
  have b2 : (((y % 100 : Nat) : Int) != 0) = decide (y % 100 ≠ 0) := by rw [Bool.eq_iff_iff, bne_iff_ne, decide_eq_true_eq]; omega
  have b3 : (((y % 400 : Nat) : Int) == 0) = decide (y % 400 = 0) := by rw [Bool.eq_iff_iff, beq_iff_eq, decide_eq_true_eq]; omega
  generalize decide (y % 4 = 0) = c1 at *
  generalize decide (y % 100 ≠ 0) = c2 at *
  generalize decide (y % 400 = 0) = c3 at *
  cases c1 <;> cases c2 <;> cases c3 <;> repeat (first | refine E6 @w1 @w2 @w3 @b1 @b2 @b3 ?_ | exact T6 @w1 @w2 @w3 @b1 @b2 @b3 | refine W0 ?_ | refine O0 ?_ | refine D0 ?_) <;> rfl
theorem days_pure (y m : Nat) (hy : y < 10000000) (h1 : 1 ≤ m) (h2 : m ≤ 12) : Pure Tryz.prog 274 [.int .i64 y, .int .i64 m] (.int .i64 (dmN (longN y) m)) := by
  refine enterO [0, 1, 4, 5, 12] [.tmp 4] Tryz.func274 ?_
  have w1 : IntKind.i64.wrap ((m : Int) - 1) = ((m - 1 : Nat) : Int) := by rw [wrap_i64_small (by omega) (by omega)]; omega
  by_cases h : m = 2
  · subst h
    repeat (first | refine E0 ?_ | exact T0 | refine W0 ?_ | refine O0 ?_ | refine D0 ?_)
    refine C0 (long_pure y hy) ?_
    cases hl : longN y with
    | true => repeat (first | refine E1 @hl ?_ | exact T1 @hl | refine W0 ?_ | refine O0 ?_ | refine D0 ?_); rfl
    | false => repeat (first | refine E2 @hl @w1 ?_ | exact T2 @hl @w1 | refine W0 ?_ | refine O0 ?_ | refine D0 ?_); rfl
  · have e : ((m : Int) == 2) = false := by rw [beq_eq_false_iff_ne]; omega
    repeat (first | refine E3 @e @w1 (days_get h1 h2 h) ?_ | exact T3 @e @w1 (days_get h1 h2 h) | refine W0 ?_ | refine O0 ?_ | refine D0 ?_)
    rw [dm_lg (lg := longN y) h]
theorem two_pure (n : Nat) (hn : n < 10000000) : Pure Tryz.prog 203 [.int .i64 n] (bytesA (twoN n)) := by
  refine enterO [0, 2] [.tmp 2] Tryz.func203 ?_
  have w1 : IntKind.i64.wrap ((n : Int).tdiv 10) = (n / 10 : Nat) := by rw [tdiv_cast (by omega) (by omega), wrap_i64_small (by omega) (by omega)]; omega
  have w2 : ((n / 10 : Nat) : Int).tmod 10 = (n / 10 % 10 : Nat) := by rw [tmod_cast (by omega) (by omega)]; omega
  have w3 : (n : Int).tmod 10 = (n % 10 : Nat) := by rw [tmod_cast (by omega) (by omega)]; omega
  have w4 : ∀ k : Nat, k < 100 → IntKind.i64.wrap (48 + (k : Int)) = ((48 + k : Nat) : Int) := fun k hk => by rw [wrap_i64_small (by omega) (by omega)]; omega
  repeat (first | refine E6 @w1 @w2 @w3 (w4 (n / 10 % 10) (by omega)) (w4 (n % 10) (by omega)) @u8_nat ?_ | exact T6 @w1 @w2 @w3 (w4 (n / 10 % 10) (by omega)) (w4 (n % 10) (by omega)) @u8_nat | refine W0 ?_ | refine O0 ?_ | refine D0 ?_)
  rfl
theorem date_pure (s : Nat) (hs : s ≤ 254033452799) : Pure Tryz.prog 202 [.int .i64 ((s : Int) - 631152000)] (.agg ((dateN s).map intA)) := by
  refine enterO [0, 2, 3, 4, 5, 6, 9, 27, 31, 40] [.cell 2 244] Tryz.func202 ?_
  have w1 : IntKind.i64.wrap ((s : Int) - 631152000 + 631152000) = (s : Int) := by rw [wrap_i64_small (by omega) (by omega)]; omega
  have w2 : IntKind.i64.wrap ((s : Int).tdiv 86400) = (s / 86400 : Nat) := by rw [tdiv_cast (by omega) (by omega), wrap_i64_small (by omega) (by omega)]; omega
  have w3 : (s : Int).tmod 86400 = (s % 86400 : Nat) := by rw [tmod_cast (by omega) (by omega)]; omega
  repeat (first | refine E0 ?_ | exact T0 | refine W0 ?_ | refine O0 ?_ | refine D0 ?_)
  refine C0 (isT_pure ((s : Int) - 631152000) (by omega) (by omega)) ?_
  repeat (first | refine E3 @w1 @w2 @w3 ?_ | exact T3 @w1 @w2 @w3 | refine W0 ?_ | refine O0 ?_ | refine D0 ?_)
  generalize hD : s / 86400 = D
  generalize hR : s % 86400 = R
  have hDb : D < 3000000 := by omega
  refine loop_inv (α := {p : Nat × Nat × Nat // p.2.1 ≤ p.1 ∧ p.2.1 ≤ D ∧ p.2.2 + p.2.1 ≤ 1950 + D ∧ yearGo p.1 p.2.1 p.2.2 = yearGo D D 1950}) (fun p => ⟨[(2, .vp 0 0), (3, .int .i64 p.1.2.1), (4, .int .i64 R), (5, .int .i64 p.1.2.2)], [.var (.agg ((List.replicate 6 0).map intA))]⟩) (fun p => p.1.2.1) ⟨(D, D, 1950), Nat.le_refl _, Nat.le_refl _, by simp only; omega, rfl⟩
    (by exact fitsO [0] (G0) (by (first | refine E0 ?_ | exact T0); rfl)) (fun ⟨⟨k, d, y⟩, hk, hd, hy, hg⟩ => ?_)
  simp only at hk hd hy hg
  have key : (366 ≤ d ∨ (365 ≤ d ∧ longN y = false)) → ∃ k', k = k' + 1 ∧ yearGo k' (if longN y = true then d - 366 else d - 365) (y + 1) = yearGo D D 1950 := fun h => by
    obtain ⟨k', rfl⟩ : ∃ k', k = k' + 1 := ⟨k - 1, by omega⟩
    rw [yearGo, if_pos h] at hg
    exact ⟨k', rfl, hg⟩
  have stop : ¬ (366 ≤ d ∨ (365 ≤ d ∧ longN y = false)) → yearGo D D 1950 = (d, y) := fun h => by
    rw [← hg]
    cases k with
    | zero => rfl
    | succ k => rw [yearGo, if_neg h]
  have hy2 : y < 10000000 := by omega
  repeat (first | refine E0 ?_ | exact T0 | refine W0 ?_ | refine O0 ?_ | refine D0 ?_)
  refine onB_d (fun h1 e1 => ?_) (fun h1 e1 => ?_)
  · obtain ⟨k', rfl, hk'⟩ := key (.inl (by omega))
    repeat (first | refine E1 @e1 ?_ | exact T1 @e1 | refine W0 ?_ | refine O0 ?_ | refine D0 ?_)
    refine C0 (long_pure y hy2) ?_
    repeat (first | refine E0 ?_ | exact T0 | refine W0 ?_ | refine O0 ?_ | refine D0 ?_)
    cases hl : longN y with
    | true =>
      have w5 : IntKind.i64.wrap (((d - 365 : Nat) : Int) - 1) = ((d - 366 : Nat) : Int) := by rw [wrap_i64_small (by omega) (by omega)]; omega
      have w6 : IntKind.i64.wrap ((d : Int) - 365) = ((d - 365 : Nat) : Int) := by rw [wrap_i64_small (by omega) (by omega)]; omega
      rw [hl] at hk'
      repeat (first | refine E3 @hl @w5 @w6 ?_ | exact T3 @hl @w5 @w6 | refine W0 ?_ | refine O0 ?_ | refine D0 ?_)
      exact ⟨⟨(k', d - 366, y + 1), by simp only; omega, by simp only; omega, by simp only; omega, hk'⟩, _, fitsO [0] (G2 @w5 @w6) (G0), by simp only; omega⟩
    | false =>
      have w6 : IntKind.i64.wrap ((d : Int) - 365) = ((d - 365 : Nat) : Int) := by rw [wrap_i64_small (by omega) (by omega)]; omega
      rw [hl] at hk'
      repeat (first | refine E2 @hl @w6 ?_ | exact T2 @hl @w6 | refine W0 ?_ | refine O0 ?_ | refine D0 ?_)
      exact ⟨⟨(k', d - 365, y + 1), by simp only; omega, by simp only; omega, by simp only; omega, hk'⟩, _, fitsO [0] (G1 @w6) (G0), by simp only; omega⟩
  · repeat (first | refine E1 @e1 ?_ | exact T1 @e1 | refine W0 ?_ | refine O0 ?_ | refine D0 ?_)
    refine onB_d (fun h2 e2 => ?_) (fun h2 e2 => ?_)
    · repeat (first | refine E1 @e2 ?_ | exact T1 @e2 | refine W0 ?_ | refine O0 ?_ | refine D0 ?_)
      refine C0 (long_pure y hy2) ?_
      repeat (first | refine E0 ?_ | exact T0 | refine W0 ?_ | refine O0 ?_ | refine D0 ?_)
      cases hl : longN y with
      | false =>
        obtain ⟨k', rfl, hk'⟩ := key (.inr ⟨by omega, hl⟩)
        have w6 : IntKind.i64.wrap ((d : Int) - 365) = ((d - 365 : Nat) : Int) := by rw [wrap_i64_small (by omega) (by omega)]; omega
        rw [hl] at hk'
        repeat (first | refine E2 @hl @w6 ?_ | exact T2 @hl @w6 | refine W0 ?_ | refine O0 ?_ | refine D0 ?_)
        refine C0 (long_pure y hy2) ?_
        repeat (first | refine E2 @hl @w6 ?_ | exact T2 @hl @w6 | refine W0 ?_ | refine O0 ?_ | refine D0 ?_)
        exact ⟨⟨(k', d - 365, y + 1), by simp only; omega, by simp only; omega, by simp only; omega, hk'⟩, _, fitsO [0] (G1 @w6) (G0), by simp only; omega⟩
      | true =>
        have hst := stop (by rintro (h | h); omega; rw [hl] at h; cases h.2)
        repeat (first | refine E1 @hl ?_ | exact T1 @hl | refine W0 ?_ | refine O0 ?_ | refine D0 ?_)
        have hdl : d < restD (longN y) 1 := by rw [hl]; show d < 366; omega
        refine loop_inv (α := {p : Nat × Nat × Nat // 1 ≤ p.2.2 ∧ p.2.2 ≤ 12 ∧ p.2.2 + p.1 = 14 ∧ p.2.1 < restD (longN y) p.2.2 ∧ p.2.1 ≤ d ∧ monthGo (longN y) p.1 p.2.1 p.2.2 = monthGo (longN y) 13 d 1}) (fun p => ⟨[(2, .vp 0 0), (3, .int .i64 p.1.2.1), (4, .int .i64 R), (5, .int .i64 y), (6, .int .i64 p.1.2.2)], [.var (.agg ((List.replicate 6 0).map intA))]⟩) (fun p => p.1.1) ⟨(13, d, 1), by simp, by simp, rfl, hdl, Nat.le_refl _, rfl⟩
          (by exact fitsO [0] (G0) (G0)) (fun ⟨⟨k2, d2, m⟩, hm1, hm2, hkm, hd2, hdd, hg2⟩ => ?_)
        simp only at hm1 hm2 hkm hd2 hdd hg2
        obtain ⟨k2, rfl⟩ : ∃ k', k2 = k' + 1 := ⟨k2 - 1, by omega⟩
        have hrs := restD_step (longN y) hm1 hm2
        have hdm := dm_le (longN y) m hm1 hm2
        rw [monthGo] at hg2
        repeat (first | refine E0 ?_ | exact T0 | refine W0 ?_ | refine O0 ?_ | refine D0 ?_)
        refine C0 (days_pure y m hy2 hm1 hm2) ?_
        repeat (first | refine E0 ?_ | exact T0 | refine W0 ?_ | refine O0 ?_ | refine D0 ?_)
        refine onB_d (fun h5 e5 => ?_) (fun h5 e5 => ?_)
        · rw [if_pos (by omega)] at hg2
          have hm3 : m + 1 ≤ 12 := by
            rcases Nat.lt_or_ge m 12 with h | h
            · omega
            · have hm12 : m = 12 := by omega
              subst hm12
              have : restD (longN y) (12 + 1) = 0 := by cases longN y <;> rfl
              omega
          repeat (first | refine E1 @e5 ?_ | exact T1 @e5 | refine W0 ?_ | refine O0 ?_ | refine D0 ?_)
          refine C0 (days_pure y m hy2 hm1 hm2) ?_
          have w7 : IntKind.i64.wrap ((d2 : Int) - (dmN (longN y) m : Nat)) = ((d2 - dmN (longN y) m : Nat) : Int) := by rw [wrap_i64_small (by omega) (by omega)]; omega
          repeat (first | refine E1 @w7 ?_ | exact T1 @w7 | refine W0 ?_ | refine O0 ?_ | refine D0 ?_)
          exact ⟨⟨(k2, d2 - dmN (longN y) m, m + 1), by simp, by simp only; omega, by simp only; omega, by simp only; omega, by simp only; omega, hg2⟩, _, fitsO [0] (G1 @w7) (G0), by simp⟩
        · rw [if_neg (by omega)] at hg2
          have v1 : IntKind.i64.wrap ((R : Int).tdiv 3600) = (R / 3600 : Nat) := by rw [tdiv_cast (by omega) (by omega), wrap_i64_small (by omega) (by omega)]; omega
          have v2 : IntKind.i64.wrap ((R : Int).tdiv 60) = (R / 60 : Nat) := by rw [tdiv_cast (by omega) (by omega), wrap_i64_small (by omega) (by omega)]; omega
          have v3 : ((R / 60 : Nat) : Int).tmod 60 = (R / 60 % 60 : Nat) := by rw [tmod_cast (by omega) (by omega)]; omega
          have v4 : (R : Int).tmod 60 = (R % 60 : Nat) := by rw [tmod_cast (by omega) (by omega)]; omega
          have v5 : IntKind.i64.wrap ((d2 : Int) + 1) = ((d2 + 1 : Nat) : Int) := by rw [wrap_i64_small (by omega) (by omega)]; omega
          repeat (first | refine E6 @e5 @v1 @v2 @v3 @v4 @v5 ?_ | exact T6 @e5 @v1 @v2 @v3 @v4 @v5 | refine W0 ?_ | refine O0 ?_ | refine D0 ?_)
          simp only [dateN, hD, hR, hst, ← hg2]
          rfl
    · have hst := stop (by rintro (h | h) <;> omega)
      repeat (first | refine E1 @e2 ?_ | exact T1 @e2 | refine W0 ?_ | refine O0 ?_ | refine D0 ?_)
      have hdl : d < restD (longN y) 1 := by
        have : 365 ≤ restD (longN y) 1 := by cases longN y <;> decide
        omega
      refine loop_inv (α := {p : Nat × Nat × Nat // 1 ≤ p.2.2 ∧ p.2.2 ≤ 12 ∧ p.2.2 + p.1 = 14 ∧ p.2.1 < restD (longN y) p.2.2 ∧ p.2.1 ≤ d ∧ monthGo (longN y) p.1 p.2.1 p.2.2 = monthGo (longN y) 13 d 1}) (fun p => ⟨[(2, .vp 0 0), (3, .int .i64 p.1.2.1), (4, .int .i64 R), (5, .int .i64 y), (6, .int .i64 p.1.2.2)], [.var (.agg ((List.replicate 6 0).map intA))]⟩) (fun p => p.1.1) ⟨(13, d, 1), by simp, by simp, rfl, hdl, Nat.le_refl _, rfl⟩
        (by exact fitsO [0] (G0) (G0)) (fun ⟨⟨k2, d2, m⟩, hm1, hm2, hkm, hd2, hdd, hg2⟩ => ?_)
      simp only at hm1 hm2 hkm hd2 hdd hg2
      obtain ⟨k2, rfl⟩ : ∃ k', k2 = k' + 1 := ⟨k2 - 1, by omega⟩
      have hrs := restD_step (longN y) hm1 hm2
      have hdm := dm_le (longN y) m hm1 hm2
      rw [monthGo] at hg2
      repeat (first | refine E0 ?_ | exact T0 | refine W0 ?_ | refine O0 ?_ | refine D0 ?_)
      refine C0 (days_pure y m hy2 hm1 hm2) ?_
      repeat (first | refine E0 ?_ | exact T0 | refine W0 ?_ | refine O0 ?_ | refine D0 ?_)
      refine onB_d (fun h5 e5 => ?_) (fun h5 e5 => ?_)
      · rw [if_pos (by omega)] at hg2
        have hm3 : m + 1 ≤ 12 := by
          rcases Nat.lt_or_ge m 12 with h | h
          · omega
          · have hm12 : m = 12 := by omega
            subst hm12
            have : restD (longN y) (12 + 1) = 0 := by cases longN y <;> rfl
            omega
        repeat (first | refine E1 @e5 ?_ | exact T1 @e5 | refine W0 ?_ | refine O0 ?_ | refine D0 ?_)
        refine C0 (days_pure y m hy2 hm1 hm2) ?_
        have w7 : IntKind.i64.wrap ((d2 : Int) - (dmN (longN y) m : Nat)) = ((d2 - dmN (longN y) m : Nat) : Int) := by rw [wrap_i64_small (by omega) (by omega)]; omega
        repeat (first | refine E1 @w7 ?_ | exact T1 @w7 | refine W0 ?_ | refine O0 ?_ | refine D0 ?_)
        exact ⟨⟨(k2, d2 - dmN (longN y) m, m + 1), by simp, by simp only; omega, by simp only; omega, by simp only; omega, by simp only; omega, hg2⟩, _, fitsO [0] (G1 @w7) (G0), by simp⟩
      · rw [if_neg (by omega)] at hg2
        have v1 : IntKind.i64.wrap ((R : Int).tdiv 3600) = (R / 3600 : Nat) := by rw [tdiv_cast (by omega) (by omega), wrap_i64_small (by omega) (by omega)]; omega
        have v2 : IntKind.i64.wrap ((R : Int).tdiv 60) = (R / 60 : Nat) := by rw [tdiv_cast (by omega) (by omega), wrap_i64_small (by omega) (by omega)]; omega
        have v3 : ((R / 60 : Nat) : Int).tmod 60 = (R / 60 % 60 : Nat) := by rw [tmod_cast (by omega) (by omega)]; omega
        have v4 : (R : Int).tmod 60 = (R % 60 : Nat) := by rw [tmod_cast (by omega) (by omega)]; omega
        have v5 : IntKind.i64.wrap ((d2 : Int) + 1) = ((d2 + 1 : Nat) : Int) := by rw [wrap_i64_small (by omega) (by omega)]; omega
        repeat (first | refine E6 @e5 @v1 @v2 @v3 @v4 @v5 ?_ | exact T6 @e5 @v1 @v2 @v3 @v4 @v5 | refine W0 ?_ | refine O0 ?_ | refine D0 ?_)
        simp only [dateN, hD, hR, hst, ← hg2]
        rfl
theorem time_pure (s : Nat) (hs : s ≤ 254033452799) (hy : (dateN s).getD 0 0 < 2050) : Pure Tryz.prog 117 [.int .i64 ((s : Int) - 631152000)] (nodeA (timeN s)) := by
  unfold timeN
  refine enterO [0, 2, 3, 4, 5, 8, 15, 22] [.cell 2 69] Tryz.func117 ?_
  repeat (first | refine E0 ?_ | exact T0 | refine W0 ?_ | refine O0 ?_ | refine D0 ?_)
  refine C0 (isT_pure ((s : Int) - 631152000) (by omega) (by omega)) ?_
  repeat (first | refine E0 ?_ | exact T0 | refine W0 ?_ | refine O0 ?_ | refine D0 ?_)
  refine C0 (date_pure s hs) ?_
  have hd6 := dateN_len s
  have hsm := dateN_small hs
  generalize dateN s = d at *
  have e1 : decide (((d.getD 0 0 : Nat) : Int) ≥ 2050) = false := decide_eq_false (by omega)
  repeat (first | refine E2 @hd6 @e1 ?_ | exact T2 @hd6 @e1 | refine W0 ?_ | refine O0 ?_ | refine D0 ?_)
  refine loop_inv (α := {i : Nat // i ≤ 6}) (fun i => ⟨[(2, .vp 0 0), (3, .vp 1 0), (4, .vp 2 0), (5, .int .i64 i.1)], [.var (.agg [.int .u8 0, .nils, .nils]), .var (.agg (d.map intA)), .var (.agg [.int .u8 23, slV 3 1 ((d.take i.1).flatMap twoN).length, .nils]), rowB true 1 (((d.take i.1).flatMap twoN).map byteA)]⟩) (fun i => 6 - i.1) ⟨0, Nat.zero_le _⟩
    (by exact fitsO [0, 1, 2, 3] (G0) (G0)) (fun ⟨i, hi⟩ => ?_)
  simp only
  generalize hX : (d.take i).flatMap twoN = X
  have hXl : X.length = 2 * i := by rw [← hX, twos_len]; simp; omega
  repeat (first | refine E0 ?_ | exact T0 | refine W0 ?_ | refine O0 ?_ | refine D0 ?_)
  refine onB_d (fun h1 e1 => ?_) (fun h1 e1 => ?_)
  · have hik : i < d.length := by omega
    have h2l := two_len (d.getD i 0)
    (first | refine E1 @e1 ?_ | exact T1 @e1)
    refine D2 [6, 8] ?_
    repeat (first | refine E0 ?_ | exact T0 | refine W0 ?_ | refine O0 ?_)
    have hm : d.getD i 0 < 10000000 := hsm _ (by simp [List.getD, hik])
    refine Q0 (two_pure (d.getD i 0) hm) ?_
    repeat (first | refine E0 ?_ | exact T0 | refine W0 ?_ | refine O0 ?_)
    have hX2 : (d.take (i + 1)).flatMap twoN = X ++ twoN (d.getD i 0) := by rw [twos_take hik, hX]
    refine ⟨⟨i + 1, by omega⟩, _, fitsO [0, 1, 2, 4] (G0) (G1 @hX2), by simp; omega⟩
  · have hi6 : i = 6 := by omega
    subst hi6
    have hX3 : d.flatMap twoN = X := by rw [← hX, List.take_of_length_le (by omega)]
    repeat (first | refine E1 @e1 ?_ | exact T1 @e1 | refine W0 ?_ | refine O0 ?_ | refine D0 ?_)
    rw [hX3, nodeA_eq]
    simp only [Nd.tag, Nd.body, Nd.kids, bytesA, List.map_append]
    rfl
end
section
open Go Go.AM Go.Proofs
set_option maxRecDepth 10000
set_option linter.all false
theorem isDn_pure (l : List AtN) (h1 : 1 ≤ l.length) (h4 : l.length ≤ 4) (ho : ∀ a ∈ l, okAt a) : Pure Tryz.prog 109 [tsE 2 (l.map attrA)] (.bool true) := by
  refine enterO [0, 2, 3, 4, 8, 46] [.tmp 2] Tryz.func109 ?_
  repeat (first | refine E0 ?_ | exact T0 | refine W0 ?_ | refine O0 ?_ | refine D0 ?_)
  refine loop_inv (α := {i : Nat // i ≤ l.length}) (fun i => ⟨[(0, tsE 2 (l.map attrA)), (3, .int .i64 i.1)], []⟩) (fun i => l.length - i.1) ⟨0, Nat.zero_le _⟩
    (by exact fitsO [] (G0) (G0)) (fun ⟨i, hi⟩ => ?_)
  repeat (first | refine E0 ?_ | exact T0 | refine W0 ?_ | refine O0 ?_ | refine D0 ?_)
  refine onB_d (fun h e => ?_) (fun h e => ?_)
  · have hil : i < l.length := by omega
    obtain ⟨hk, hne, hlen, hc⟩ := ho (l.getD i ⟨0, []⟩) (by simp [List.getD, hil])
    repeat (first | refine E2 @e (attrs_getD hil) ?_ | exact T2 @e (attrs_getD hil) | refine W0 ?_ | refine O0 ?_ | refine D0 ?_)
    generalize ha : l.getD i ⟨0, []⟩ = a at *
    obtain ⟨kd, tx⟩ := a
    simp only at *
    have hb : ((((kd : Int) != 3) && ((kd : Int) != 6)) && ((kd : Int) != 10) && ((kd : Int) != 11)) = false := by
      rcases hk with h | h | h | h <;> subst h <;> rfl
    have htx : (tx == []) = false := by cases tx with | nil => exact absurd rfl hne | cons c r => rfl
    rcases hk with hk | hk | hk | hk <;> subst hk <;> (
      repeat (first | refine E3 @htx (attrs_getD hil) @ha ?_ | exact T3 @htx (attrs_getD hil) @ha | refine W0 ?_ | refine O0 ?_ | refine D0 ?_)
      refine C0 (isText_pure tx hlen hc) ?_
      repeat (first | refine E0 ?_ | exact T0 | refine W0 ?_ | refine O0 ?_ | refine D0 ?_)
      exact ⟨⟨i + 1, by omega⟩, _, fitsO [] (G0) (G0), by simp; omega⟩)
  · have e1 : decide ((l.length : Int) ≥ 1) = true := decide_eq_true (by omega)
    have e4 : decide ((l.length : Int) ≤ 4) = true := decide_eq_true (by omega)
    repeat (first | refine E3 @e @e1 @e4 ?_ | exact T3 @e @e1 @e4 | refine W0 ?_ | refine O0 ?_ | refine D0 ?_)
theorem dnNd_pure (l : List AtN) (hl : l.length ≤ 4) (ho : ∀ a ∈ l, okAt a) : Pure Tryz.prog 118 [tsE 2 (l.map attrA)] (nodeA (dnNd l)) := by
  refine enterO [0, 2, 3, 4, 5, 9] [.cell 2 69] Tryz.func118 ?_
  repeat (first | refine E0 ?_ | exact T0 | refine W0 ?_ | refine O0 ?_ | refine D0 ?_)
  refine loop_inv (α := {i : Nat // i ≤ l.length}) (fun i => ⟨[(0, tsE 2 (l.map attrA)), (2, .vp 0 0), (3, slV 1 3 ((l.take i.1).map atNd).length), (4, .int .i64 i.1)], [.var (.agg [.int .u8 0, .nils, .nils]), rowB true 3 (((l.take i.1).map atNd).map nodeA)]⟩) (fun i => l.length - i.1) ⟨0, Nat.zero_le _⟩
    (by exact fitsO [0, 1] (G0) (G0)) (fun ⟨i, hi⟩ => ?_)
  simp only
  generalize hX : (l.take i).map atNd = X
  have hXl : X.length = i := by rw [← hX]; simp; omega
  repeat (first | refine E0 ?_ | exact T0 | refine W0 ?_ | refine O0 ?_ | refine D0 ?_)
  refine onB_d (fun h e => ?_) (fun h e => ?_)
  · have hil : i < l.length := by omega
    obtain ⟨hk, hne, hlen, hc⟩ := ho (l.getD i ⟨0, []⟩) (by simp [List.getD, hil])
    have hX2 : (l.take (i + 1)).map atNd = X ++ [atNd (l.getD i ⟨0, []⟩)] := by
      rw [← hX, List.take_succ, List.map_append]; simp [List.getD, hil]
    have hat : ∀ d, (l.map attrA).getD i d = attrA (l.getD i ⟨0, []⟩) := attrs_getD hil
    generalize l.getD i ⟨0, []⟩ = a at *
    repeat (first | refine E3 @e @u8_nat @hat ?_ | exact T3 @e @u8_nat @hat | refine W0 ?_ | refine O0 ?_)
    refine C0 (id_pure [0x55, 4, UInt8.ofNat a.kind] (by simp)) ?_
    repeat (first | refine E0 ?_ | exact T0 | refine W0 ?_ | refine O0 ?_)
    refine D3 [8, 9, 10, 11, 12, 13] [0] 15 ?_
    repeat (first | refine E1 @hat ?_ | exact T1 @hat | refine W0 ?_ | refine O0 ?_)
    refine Q0 (text_pure a.text (by omega)) ?_
    repeat (first | refine E0 ?_ | exact T0 | refine W0 ?_ | refine O0 ?_)
    refine C0 (seq_pure 0x30 [idN [0x55, 4, UInt8.ofNat a.kind], textN a.text]) ?_
    repeat (first | refine E0 ?_ | exact T0 | refine W0 ?_ | refine O0 ?_)
    refine C0 (seq_pure 0x31 [seqN 0x30 [idN [0x55, 4, UInt8.ofNat a.kind], textN a.text]]) ?_
    repeat (first | refine E0 ?_ | exact T0 | refine W0 ?_ | refine O0 ?_)
    have hmin : min (i + 1) l.length = i + 1 := by omega
    have hat2 : seqN 0x31 [seqN 0x30 [idN [0x55, 4, UInt8.ofNat a.kind], textN a.text]] = atNd a := rfl
    exact ⟨⟨i + 1, by omega⟩, _, fitsO [0, 7] (G2 @hXl @hmin) (G2 @hX2 @hat2), by simp; omega⟩
  · have hil : i = l.length := by omega
    subst hil
    have hX3 : l.map atNd = X := by rw [← hX, List.take_of_length_le (Nat.le_refl _)]
    repeat (first | refine E1 @e ?_ | exact T1 @e | refine W0 ?_ | refine O0 ?_ | refine D0 ?_)
    refine C0 (seq_pure 0x30 X) ?_
    repeat (first | refine E0 ?_ | exact T0 | refine W0 ?_ | refine O0 ?_ | refine D0 ?_)
    rw [dnNd, hX3]
end
section
open Go Go.AM Go.Proofs
set_option maxRecDepth 10000
set_option linter.all false
theorem isKey16_pure (k : KeyN) (h : OkRsa k) : Pure Tryz.prog 111 [keyA k] (.bool true) := by
  refine enterO [0, 1, 2] [.tmp 2] Tryz.func111 ?_
  repeat (first | refine E0 ?_ | exact T0 | refine W0 ?_ | refine O0 ?_ | refine D0 ?_)
  refine C0 (isKey_pure k (by have := h.len; omega) h.x h.y h.inf h.alg h.isn h.b1 h.b2 h.odd h.e2 h.e3) ?_
  repeat (first | refine E0 ?_ | exact T0 | refine W0 ?_ | refine O0 ?_ | refine D0 ?_)
theorem ids_pure : Pure Tryz.prog 205 [.int .i64 1] (nodeA idsN) := by
  refine enterO [0, 2, 4] [.cell 2 69] Tryz.func205 ?_
  repeat (first | refine E0 ?_ | exact T0 | refine W0 ?_ | refine O0 ?_ | refine D0 ?_)
  refine C0 (id_pure [0x2a, 0x86, 0x48, 0x86, 0xf7, 0x0d, 1, 1, 1] (by simp)) ?_
  repeat (first | refine E0 ?_ | exact T0 | refine W0 ?_ | refine O0 ?_ | refine D0 ?_)
  refine C0 (seq_pure 0x30 [idN [0x2a, 0x86, 0x48, 0x86, 0xf7, 0x0d, 1, 1, 1], .mk 5 [] []]) ?_
  repeat (first | refine E0 ?_ | exact T0 | refine W0 ?_ | refine O0 ?_ | refine D0 ?_)
  rfl
theorem digits_pure (k : KeyN) (h : OkRsa k) : Pure Tryz.prog 206 [keyA k] (bytesA (digitsN k)) := by
  have hl := h.len
  have hb := h.b2
  have ha := h.alg
  refine enterO [0, 1, 2, 3, 5, 9] [.tmp 2] Tryz.func206 ?_
  (first | refine E1 @ha ?_ | exact T1 @ha)
  refine D2 [7, 8] ?_
  repeat (first | refine E0 ?_ | exact T0 | refine W0 ?_ | refine O0 ?_)
  refine Q0 (int_pure k.n (by omega) (by omega)) ?_
  repeat (first | refine E0 ?_ | exact T0 | refine W0 ?_ | refine O0 ?_)
  refine Q0 (small_pure k.e.toUInt64) ?_
  repeat (first | refine E0 ?_ | exact T0 | refine W0 ?_ | refine O0 ?_)
  refine C0 (seq_pure 0x30 [intN k.n, smallN k.e.toUInt64]) ?_
  repeat (first | refine E0 ?_ | exact T0 | refine W0 ?_ | refine O0 ?_)
  have h1 := size_int k.n
  have h2 := size_small k.e.toUInt64
  refine Q0 (ndBytes_pure (seqN 0x30 [intN k.n, smallN k.e.toUInt64]) (by rw [size_seq, size_cons, size_cons, size_nil]; omega)) ?_
  repeat (first | refine E0 ?_ | exact T0 | refine W0 ?_ | refine O0 ?_)
  rfl
theorem keyNd_pure (k : KeyN) (h : OkRsa k) : Pure Tryz.prog 119 [keyA k] (nodeA (keyNd k)) := by
  have ha := h.alg
  refine enterO [0, 1, 2, 5] [.cell 2 69] Tryz.func119 ?_
  repeat (first | refine E0 ?_ | exact T0 | refine W0 ?_ | refine O0 ?_ | refine D0 ?_)
  refine C0 (isKey16_pure k h) ?_
  (first | refine E0 ?_ | exact T0)
  refine D2 [6, 7, 8] ?_
  repeat (first | refine E1 @ha ?_ | exact T1 @ha | refine W0 ?_ | refine O0 ?_)
  refine Q0 (ids_pure) ?_
  repeat (first | refine E0 ?_ | exact T0 | refine W0 ?_ | refine O0 ?_)
  refine Q0 (digits_pure k h) ?_
  repeat (first | refine E0 ?_ | exact T0 | refine W0 ?_ | refine O0 ?_)
  have hd := ndBytes_len (seqN 0x30 [intN k.n, smallN k.e.toUInt64])
  refine Q0 (bits3_pure (digitsN k) (by unfold digitsN; omega)) ?_
  repeat (first | refine E0 ?_ | exact T0 | refine W0 ?_ | refine O0 ?_)
  refine C0 (seq_pure 0x30 [idsN, bits3N (digitsN k)]) ?_
  repeat (first | refine E0 ?_ | exact T0 | refine W0 ?_ | refine O0 ?_)
  rfl
end
section
open Go Go.AM Go.Proofs
set_option maxRecDepth 10000
set_option linter.all false
theorem isEx_pure (x : ExN) (hid : isIDN x.id = true) (hil : x.id.length < 100) (hv : x.value.length ≤ 600) : Pure Tryz.prog 112 [tsE 3 [extA x]] (.bool true) := by
  refine enterO [0, 2, 3, 7, 45] [.tmp 2] Tryz.func112 ?_
  repeat (first | refine E0 ?_ | exact T0 | refine W0 ?_ | refine O0 ?_ | refine D0 ?_)
  have ez : decide ((x.value.length : Int) > 600) = false := decide_eq_false (by omega)
  refine loop_inv (α := {i : Nat // i ≤ 1}) (fun i => ⟨[(0, tsE 3 [extA x]), (3, .int .i64 i.1)], []⟩) (fun i => 1 - i.1) ⟨0, Nat.zero_le _⟩
    (by exact fitsO [] (G0) (G0)) (fun ⟨i, hi⟩ => ?_)
  repeat (first | refine E0 ?_ | exact T0 | refine W0 ?_ | refine O0 ?_ | refine D0 ?_)
  refine onB_d (fun h e => ?_) (fun h e => ?_)
  · have h0 : i = 0 := by omega
    subst h0
    repeat (first | refine E2 @e @ez ?_ | exact T2 @e @ez | refine W0 ?_ | refine O0 ?_ | refine D0 ?_)
    refine Q0 (isID_pure x.id (by omega)) ?_
    repeat (first | refine E2 @hid @ez ?_ | exact T2 @hid @ez | refine W0 ?_ | refine O0 ?_ | refine D0 ?_)
    exact ⟨⟨1, by omega⟩, _, fitsO [] (G0) (G0), by simp⟩
  · repeat (first | refine E1 @e ?_ | exact T1 @e | refine W0 ?_ | refine O0 ?_ | refine D0 ?_)
theorem exsNd_pure (l : List ExN) (hl : l.length ≤ 12) (ho : ∀ x ∈ l, x.id.length ≤ 1000 ∧ x.value.length ≤ 1000) : Pure Tryz.prog 120 [tsE 3 (l.map extA)] (nodeA (exsNd l)) := by
  refine enterO [0, 2, 3, 4, 5, 9, 23] [.cell 2 69] Tryz.func120 ?_
  repeat (first | refine E0 ?_ | exact T0 | refine W0 ?_ | refine O0 ?_ | refine D0 ?_)
  refine loop_inv (α := {i : Nat // i ≤ l.length}) (fun i => ⟨[(0, tsE 3 (l.map extA)), (2, .vp 0 0), (3, slV 1 3 ((l.take i.1).map exNd).length), (4, .int .i64 i.1)], [.var (.agg [.int .u8 0, .nils, .nils]), rowB true 3 (((l.take i.1).map exNd).map nodeA)]⟩) (fun i => l.length - i.1) ⟨0, Nat.zero_le _⟩
    (by exact fitsO [0, 1] (G0) (G0)) (fun ⟨i, hi⟩ => ?_)
  simp only
  generalize hX : (l.take i).map exNd = X
  have hXl : X.length = i := by rw [← hX]; simp; omega
  repeat (first | refine E0 ?_ | exact T0 | refine W0 ?_ | refine O0 ?_ | refine D0 ?_)
  refine onB_d (fun h e => ?_) (fun h e => ?_)
  · have hil : i < l.length := by omega
    obtain ⟨hi1, hi2⟩ := ho (l.getD i ⟨[], false, []⟩) (by simp [List.getD, hil])
    have hX2 : (l.take (i + 1)).map exNd = X ++ [exNd (l.getD i ⟨[], false, []⟩)] := by
      rw [← hX, List.take_succ, List.map_append]; simp [List.getD, hil]
    have hXm : min (i + 1) l.length = X.length + 1 := by omega
    repeat (first | refine E2 @e (exts_getD hil) ?_ | exact T2 @e (exts_getD hil) | refine W0 ?_ | refine O0 ?_ | refine D0 ?_)
    generalize ha : l.getD i ⟨[], false, []⟩ = a at *
    obtain ⟨id, cr, v⟩ := a
    simp only at *
    refine C0 (id_pure id (by omega)) ?_
    repeat (first | refine E2 (exts_getD hil) @ha ?_ | exact T2 (exts_getD hil) @ha | refine W0 ?_ | refine O0 ?_ | refine D0 ?_)
    cases cr with
    | true =>
      repeat (first | refine E2 (exts_getD hil) @ha ?_ | exact T2 (exts_getD hil) @ha | refine W0 ?_ | refine O0 ?_ | refine D0 ?_)
      refine C0 (bool_pure true) ?_
      repeat (first | refine E2 (exts_getD hil) @ha ?_ | exact T2 (exts_getD hil) @ha | refine W0 ?_ | refine O0 ?_ | refine D0 ?_)
      refine C0 (octets_pure v (by omega)) ?_
      repeat (first | refine E0 ?_ | exact T0 | refine W0 ?_ | refine O0 ?_ | refine D0 ?_)
      refine C0 (seq_pure 0x30 [idN id, boolN true, octetsN v]) ?_
      repeat (first | refine E0 ?_ | exact T0 | refine W0 ?_ | refine O0 ?_ | refine D0 ?_)
      have hX3 : (l.take (i + 1)).map exNd = X ++ [seqN 0x30 [idN id, boolN true, octetsN v]] := hX2
      refine ⟨⟨i + 1, by omega⟩, _, fitsO [0, 8] (G1 @hXm) (G1 @hX3), by simp; omega⟩
    | false =>
      repeat (first | refine E2 (exts_getD hil) @ha ?_ | exact T2 (exts_getD hil) @ha | refine W0 ?_ | refine O0 ?_ | refine D0 ?_)
      refine C0 (octets_pure v (by omega)) ?_
      repeat (first | refine E0 ?_ | exact T0 | refine W0 ?_ | refine O0 ?_ | refine D0 ?_)
      refine C0 (seq_pure 0x30 [idN id, octetsN v]) ?_
      repeat (first | refine E0 ?_ | exact T0 | refine W0 ?_ | refine O0 ?_ | refine D0 ?_)
      have hX3 : (l.take (i + 1)).map exNd = X ++ [seqN 0x30 [idN id, octetsN v]] := hX2
      refine ⟨⟨i + 1, by omega⟩, _, fitsO [0, 6] (G1 @hXm) (G1 @hX3), by simp; omega⟩
  · have hil : i = l.length := by omega
    subst hil
    have hX3 : l.map exNd = X := by rw [← hX, List.take_of_length_le (Nat.le_refl _)]
    repeat (first | refine E1 @e ?_ | exact T1 @e | refine W0 ?_ | refine O0 ?_ | refine D0 ?_)
    refine C0 (seq_pure 0x30 X) ?_
    repeat (first | refine E0 ?_ | exact T0 | refine W0 ?_ | refine O0 ?_ | refine D0 ?_)
    rw [exsNd, hX3]
end
section
open Go Go.AM Go.Proofs
set_option maxRecDepth 10000
set_option linter.all false
theorem serial_pure (a : List UInt32) (h1 : isN a = true) (h2 : 0 < a.length) (h3 : bitsN a < 160) (h4 : a.length < 256) : Pure Tryz.prog 108 [natA a] (.bool true) := by
  refine enterO [0, 2] [.tmp 2] Tryz.func108 ?_
  repeat (first | refine E0 ?_ | exact T0 | refine W0 ?_ | refine O0 ?_ | refine D0 ?_)
  refine C0 (isN_pure a (by omega)) ?_
  have e1 : decide ((a.length : Int) > 0) = true := decide_eq_true (by omega)
  have e2 : decide ((bitsN a : Int) < 160) = true := decide_eq_true (by omega)
  repeat (first | refine E2 @h1 @e1 ?_ | exact T2 @h1 @e1 | refine W0 ?_ | refine O0 ?_ | refine D0 ?_)
  refine C0 (bits_pure a (by omega)) ?_
  repeat (first | refine E1 @e2 ?_ | exact T1 @e2 | refine W0 ?_ | refine O0 ?_ | refine D0 ?_)
theorem signed_pure (b : List UInt8) (h1 : 1 ≤ b.length) (h2 : b.length ≤ 600) : Pure Tryz.prog 113 [bytesA b] (.bool true) := by
  refine enterO [0, 2] [.tmp 2] Tryz.func113 ?_
  have e1 : decide ((b.length : Int) ≥ 1) = true := decide_eq_true (by omega)
  have e2 : decide ((b.length : Int) ≤ 600) = true := decide_eq_true (by omega)
  repeat (first | refine E2 @e1 @e2 ?_ | exact T2 @e1 @e2 | refine W0 ?_ | refine O0 ?_ | refine D0 ?_)
theorem isCe_pure (c : CeN) (h : OkCe c) : Pure Tryz.prog 48 [certA c] (.bool true) := by
  obtain ⟨x, hx, x1, x2, x3⟩ := h.e
  have f1 := h.f1
  have t1 := h.t1
  have ft := h.ft
  have e1 : decide ((c.fr : Int) - 631152000 ≤ (c.ti : Int) - 631152000) = true := decide_eq_true (by omega)
  refine enterO [0, 1, 2] [.tmp 2] Tryz.func48 ?_
  repeat (first | refine E0 ?_ | exact T0 | refine W0 ?_ | refine O0 ?_ | refine D0 ?_)
  refine C0 (serial_pure c.serial h.s1 h.s2 h.s3 h.s4) ?_
  repeat (first | refine E0 ?_ | exact T0 | refine W0 ?_ | refine O0 ?_ | refine D0 ?_)
  refine C0 (isDn_pure c.issuer h.i1 h.i4 h.io) ?_
  repeat (first | refine E0 ?_ | exact T0 | refine W0 ?_ | refine O0 ?_ | refine D0 ?_)
  refine C0 (isDn_pure c.subject h.u1 h.u4 h.uo) ?_
  repeat (first | refine E0 ?_ | exact T0 | refine W0 ?_ | refine O0 ?_ | refine D0 ?_)
  refine C0 (isT_pure ((c.fr : Int) - 631152000) (by omega) (by omega)) ?_
  repeat (first | refine E0 ?_ | exact T0 | refine W0 ?_ | refine O0 ?_ | refine D0 ?_)
  refine C0 (isT_pure ((c.ti : Int) - 631152000) (by omega) (by omega)) ?_
  repeat (first | refine E1 @e1 ?_ | exact T1 @e1 | refine W0 ?_ | refine O0 ?_ | refine D0 ?_)
  refine C0 (isKey16_pure c.key h.k) ?_
  repeat (first | refine E1 @hx ?_ | exact T1 @hx | refine W0 ?_ | refine O0 ?_ | refine D0 ?_)
  refine C0 (isEx_pure x x1 x2 x3) ?_
  repeat (first | refine E0 ?_ | exact T0 | refine W0 ?_ | refine O0 ?_ | refine D0 ?_)
  refine C0 (signed_pure c.sig h.g1 h.g2) ?_
  repeat (first | refine E0 ?_ | exact T0 | refine W0 ?_ | refine O0 ?_ | refine D0 ?_)
theorem body_pure (c : CeN) (h : OkCe c) : Pure Tryz.prog 51 [certA c] (nodeA (bodyNd c)) := by
  obtain ⟨x, hx, x1, x2, x3⟩ := h.e
  refine enterO [0, 1, 2, 3, 6] [.cell 2 69] Tryz.func51 ?_
  repeat (first | refine E0 ?_ | exact T0 | refine W0 ?_ | refine O0 ?_ | refine D0 ?_)
  refine C0 (isCe_pure c h) ?_
  have hk4 : c.exts.length ≤ 12 := by rw [hx]; simp
  have hxo : ∀ y ∈ c.exts, y.id.length ≤ 1000 ∧ y.value.length ≤ 1000 := by
    intro y hy
    rw [hx] at hy
    cases List.mem_singleton.1 hy
    exact ⟨by omega, by omega⟩
  (first | refine E0 ?_ | exact T0)
  refine D3 [6, 7, 8, 9] [] 8 ?_
  repeat (first | refine E0 ?_ | exact T0 | refine W0 ?_ | refine O0 ?_)
  refine Q0 (time_pure c.fr h.f1 h.f2) ?_
  repeat (first | refine E0 ?_ | exact T0 | refine W0 ?_ | refine O0 ?_)
  refine Q0 (time_pure c.ti h.t1 h.t2) ?_
  repeat (first | refine E0 ?_ | exact T0 | refine W0 ?_ | refine O0 ?_)
  refine C0 (seq_pure 0x30 [timeN c.fr, timeN c.ti]) ?_
  repeat (first | refine E0 ?_ | exact T0 | refine W0 ?_ | refine O0 ?_)
  refine D2 [17, 18, 19] ?_
  repeat (first | refine E0 ?_ | exact T0 | refine W0 ?_ | refine O0 ?_)
  refine Q0 (small_pure 2) ?_
  repeat (first | refine E0 ?_ | exact T0 | refine W0 ?_ | refine O0 ?_)
  refine Q0 (int_pure c.serial (by have := h.s4; omega) (by have := h.s3; omega)) ?_
  repeat (first | refine E0 ?_ | exact T0 | refine W0 ?_ | refine O0 ?_)
  refine Q0 (dnNd_pure c.issuer h.i4 h.io) ?_
  repeat (first | refine E0 ?_ | exact T0 | refine W0 ?_ | refine O0 ?_)
  refine Q0 (dnNd_pure c.subject h.u4 h.uo) ?_
  repeat (first | refine E0 ?_ | exact T0 | refine W0 ?_ | refine O0 ?_)
  refine Q0 (keyNd_pure c.key h.k) ?_
  repeat (first | refine E0 ?_ | exact T0 | refine W0 ?_ | refine O0 ?_)
  refine Q0 (exsNd_pure c.exts hk4 hxo) ?_
  repeat (first | refine E0 ?_ | exact T0 | refine W0 ?_ | refine O0 ?_)
  refine C0 (seq_pure 0x30 [smallN 2, intN c.serial, dnNd c.issuer, seqN 0x30 [timeN c.fr, timeN c.ti], dnNd c.subject, keyNd c.key, exsNd c.exts]) ?_
  repeat (first | refine E0 ?_ | exact T0 | refine W0 ?_ | refine O0 ?_)
  rfl
theorem ceNd_pure (c : CeN) (h : OkCe c) : Pure Tryz.prog 161 [certA c] (nodeA (ceNd c)) := by
  refine enterO [0, 1, 2, 5] [.cell 2 69] Tryz.func161 ?_
  repeat (first | refine E0 ?_ | exact T0 | refine W0 ?_ | refine O0 ?_ | refine D0 ?_)
  refine C0 (isCe_pure c h) ?_
  (first | refine E0 ?_ | exact T0)
  refine D2 [5, 6, 7] ?_
  repeat (first | refine E0 ?_ | exact T0 | refine W0 ?_ | refine O0 ?_)
  refine Q0 (body_pure c h) ?_
  repeat (first | refine E0 ?_ | exact T0 | refine W0 ?_ | refine O0 ?_)
  refine Q0 (bits3_pure c.sig (by have := h.g2; omega)) ?_
  repeat (first | refine E0 ?_ | exact T0 | refine W0 ?_ | refine O0 ?_)
  refine C0 (seq_pure 0x30 [bodyNd c, bits3N c.sig]) ?_
  repeat (first | refine E0 ?_ | exact T0 | refine W0 ?_ | refine O0 ?_)
  rfl
theorem ceDigest_pure (c : CeN) (h : OkCe c) : Pure Tryz.prog 19 [certA c] (bytesA (ceDigest c)) := by
  have hb := size_body h
  refine enterO [0, 1, 2, 5] [.tmp 2] Tryz.func19 ?_
  repeat (first | refine E0 ?_ | exact T0 | refine W0 ?_ | refine O0 ?_ | refine D0 ?_)
  refine C0 (isCe_pure c h) ?_
  repeat (first | refine E0 ?_ | exact T0 | refine W0 ?_ | refine O0 ?_ | refine D0 ?_)
  refine C0 (body_pure c h) ?_
  repeat (first | refine E0 ?_ | exact T0 | refine W0 ?_ | refine O0 ?_ | refine D0 ?_)
  refine C0 (ndBytes_pure (bodyNd c) (by omega)) ?_
  have hl := ndBytes_len (bodyNd c)
  repeat (first | refine E0 ?_ | exact T0 | refine W0 ?_ | refine O0 ?_ | refine D0 ?_)
  refine C0 (sha_pure (ndBytes (bodyNd c)) (by omega)) ?_
  repeat (first | refine E0 ?_ | exact T0 | refine W0 ?_ | refine O0 ?_ | refine D0 ?_)
  rfl
end
section
open Go Go.AM Go.Proofs
set_option maxRecDepth 10000
set_option linter.all false
theorem formed_pure (m : MaN) (h : OkMa m) : Pure Tryz.prog 239 [manA m] (.bool true) := by
  obtain ⟨name, counter, l⟩ := m
  have fo := h.fo
  have f12 := h.f12
  simp only at *
  refine enterO [0, 1, 2, 3, 4, 9, 31] [.tmp 2] Tryz.func239 ?_
  repeat (first | refine E0 ?_ | exact T0 | refine W0 ?_ | refine O0 ?_ | refine D0 ?_)
  refine loop_inv (α := {i : Nat // i ≤ l.length}) (fun i => ⟨[(1, .vp 0 0), (3, .int .i64 i.1)], [.var (manA ⟨name, counter, l⟩)]⟩) (fun i => l.length - i.1) ⟨0, Nat.zero_le _⟩
    (by exact fitsO [0] (G0) (G0)) (fun ⟨i, hi⟩ => ?_)
  repeat (first | refine E0 ?_ | exact T0 | refine W0 ?_ | refine O0 ?_ | refine D0 ?_)
  refine onB_d (fun h1 e => ?_) (fun h1 e => ?_)
  · have hil : i < l.length := by omega
    obtain ⟨p1, p2, p3, p4⟩ := fo (l.getD i ⟨[], 0, []⟩) (by simp [List.getD, hil])
    generalize ha : l.getD i ⟨[], 0, []⟩ = a at *
    obtain ⟨pa, sz, dg⟩ := a
    simp only at *
    have e1 : decide ((sz : Int) < 0) = false := decide_eq_false (by omega)
    have e2 : ((dg.length : Int) != 32) = false := by rw [p4]; rfl
    repeat (first | refine E5 @e (ents_getD hil) @ha @e1 @e2 ?_ | exact T5 @e (ents_getD hil) @ha @e1 @e2 | refine W0 ?_ | refine O0 ?_ | refine D0 ?_)
    refine C0 (isText_pure pa p1 p2) ?_
    repeat (first | refine E0 ?_ | exact T0 | refine W0 ?_ | refine O0 ?_ | refine D0 ?_)
    exact ⟨⟨i + 1, by omega⟩, _, fitsO [0] (G0) (G0), by simp; omega⟩
  · have hn : (name == []) = false := by have := h.n0; cases name with | nil => exact absurd rfl this | cons c r => rfl
    repeat (first | refine E2 @e @hn ?_ | exact T2 @e @hn | refine W0 ?_ | refine O0 ?_ | refine D0 ?_)
    refine C0 (isText_pure name h.n64 h.nc) ?_
    repeat (first | refine E0 ?_ | exact T0 | refine W0 ?_ | refine O0 ?_ | refine D0 ?_)
theorem great22_pure (m : MaN) (h : OkMa m) : Pure Tryz.prog 178 [manA m] (.bool false) := by
  obtain ⟨name, counter, l⟩ := m
  have fo := h.fo
  have f12 := h.f12
  simp only at *
  refine enterO [0, 1, 2, 3, 8, 17] [.tmp 2] Tryz.func178 ?_
  repeat (first | refine E0 ?_ | exact T0 | refine W0 ?_ | refine O0 ?_ | refine D0 ?_)
  refine loop_inv (α := {i : Nat // i ≤ l.length}) (fun i => ⟨[(1, .vp 0 0), (3, .int .i64 i.1)], [.var (manA ⟨name, counter, l⟩)]⟩) (fun i => l.length - i.1) ⟨0, Nat.zero_le _⟩
    (by exact fitsO [0] (G0) (G0)) (fun ⟨i, hi⟩ => ?_)
  repeat (first | refine E0 ?_ | exact T0 | refine W0 ?_ | refine O0 ?_ | refine D0 ?_)
  refine onB_d (fun h1 e => ?_) (fun h1 e => ?_)
  · have hil : i < l.length := by omega
    obtain ⟨p1, p2, p3, p4⟩ := fo (l.getD i ⟨[], 0, []⟩) (by simp [List.getD, hil])
    generalize ha : l.getD i ⟨[], 0, []⟩ = a at *
    have e1 : decide ((a.size : Int) > 600) = false := decide_eq_false (by omega)
    repeat (first | refine E4 @e (ents_getD hil) @ha @e1 ?_ | exact T4 @e (ents_getD hil) @ha @e1 | refine W0 ?_ | refine O0 ?_ | refine D0 ?_)
    exact ⟨⟨i + 1, by omega⟩, _, fitsO [0] (G0) (G0), by simp; omega⟩
  · have e2 : decide ((l.length : Int) > 12) = false := decide_eq_false (by omega)
    repeat (first | refine E2 @e @e2 ?_ | exact T2 @e @e2 | refine W0 ?_ | refine O0 ?_ | refine D0 ?_)
theorem rising_pure (m : MaN) (h : OkMa m) : Pure Tryz.prog 181 [manA m] (.bool true) := by
  obtain ⟨name, counter, l⟩ := m
  have up := h.up
  have f12 := h.f12
  simp only at *
  refine enterO [0, 1, 2, 3, 8, 24] [.tmp 2] Tryz.func181 ?_
  repeat (first | refine E0 ?_ | exact T0 | refine W0 ?_ | refine O0 ?_ | refine D0 ?_)
  refine loop_inv (α := {i : Nat // 1 ≤ i}) (fun i => ⟨[(1, .vp 0 0), (3, .int .i64 i.1)], [.var (manA ⟨name, counter, l⟩)]⟩) (fun i => 20 - i.1) ⟨1, Nat.le_refl _⟩
    (by exact fitsO [0] (G0) (G0)) (fun ⟨i, hi⟩ => ?_)
  by_cases hil : i < l.length
  · have e : decide ((i : Int) < l.length) = true := decide_eq_true (by omega)
    have w1 : IntKind.i64.wrap ((i : Int) - 1) = ((i - 1 : Nat) : Int) := by rw [wrap_i64_small (by omega) (by omega)]; omega
    have hil2 : i - 1 < l.length := by omega
    have hu := up (i - 1) (by omega)
    rw [show i - 1 + 1 = i by omega] at hu
    repeat (first | refine E5 @e (ents_getD hil) (ents_getD hil2) @w1 @hu ?_ | exact T5 @e (ents_getD hil) (ents_getD hil2) @w1 @hu | refine W0 ?_ | refine O0 ?_ | refine D0 ?_)
    exact ⟨⟨i + 1, by omega⟩, _, fitsO [0] (G0) (G0), by simp; omega⟩
  · have e : decide ((i : Int) < l.length) = false := decide_eq_false (by omega)
    repeat (first | refine E1 @e ?_ | exact T1 @e | refine W0 ?_ | refine O0 ?_ | refine D0 ?_)
theorem isMa_pure (m : MaN) (h : OkMa m) : Pure Tryz.prog 166 [manA m] (.bool true) := by
  refine enterO [0, 1, 2] [.tmp 2] Tryz.func166 ?_
  repeat (first | refine E0 ?_ | exact T0 | refine W0 ?_ | refine O0 ?_ | refine D0 ?_)
  refine C0 (formed_pure m h) ?_
  repeat (first | refine E0 ?_ | exact T0 | refine W0 ?_ | refine O0 ?_ | refine D0 ?_)
  refine C0 (great22_pure m h) ?_
  repeat (first | refine E0 ?_ | exact T0 | refine W0 ?_ | refine O0 ?_ | refine D0 ?_)
  refine C0 (rising_pure m h) ?_
  repeat (first | refine E0 ?_ | exact T0 | refine W0 ?_ | refine O0 ?_ | refine D0 ?_)
end
section
open Go Go.AM Go.Proofs
set_option maxRecDepth 10000
set_option linter.all false
theorem maNd0_pure (m : MaN) (h : OkMa m) : Pure Tryz.prog 167 [manA m] (nodeA (maNd m)) := by
  obtain ⟨name, counter, l⟩ := m
  have fo := h.fo
  have f12 := h.f12
  have n64 := h.n64
  simp only at *
  refine enterO [0, 1, 2, 3, 4, 5, 10] [.cell 2 69] Tryz.func167 ?_
  repeat (first | refine E0 ?_ | exact T0 | refine W0 ?_ | refine O0 ?_ | refine D0 ?_)
  refine loop_inv (α := {i : Nat // i ≤ l.length}) (fun i => ⟨[(1, .vp 0 0), (2, .vp 1 0), (3, slV 2 3 ((l.take i.1).map enNd).length), (4, .int .i64 i.1)], [.var (manA ⟨name, counter, l⟩), .var (.agg [.int .u8 0, .nils, .nils]), rowB true 3 (((l.take i.1).map enNd).map nodeA)]⟩) (fun i => l.length - i.1) ⟨0, Nat.zero_le _⟩
    (by exact fitsO [0, 1, 2] (G0) (G0)) (fun ⟨i, hi⟩ => ?_)
  simp only
  generalize hX : (l.take i).map enNd = X
  have hXl : X.length = i := by rw [← hX]; simp; omega
  repeat (first | refine E0 ?_ | exact T0 | refine W0 ?_ | refine O0 ?_ | refine D0 ?_)
  refine onB_d (fun h1 e => ?_) (fun h1 e => ?_)
  · have hil : i < l.length := by omega
    obtain ⟨x1, x2, x3, x4⟩ := fo _ (show l.getD i ⟨[], 0, []⟩ ∈ l by simp [List.getD, hil])
    have hX2 : (l.take (i + 1)).map enNd = X ++ [enNd (l.getD i ⟨[], 0, []⟩)] := by
      rw [← hX, List.take_succ, List.map_append]; simp [List.getD, hil]
    have hat : ∀ d, (l.map entA).getD i d = entA (l.getD i ⟨[], 0, []⟩) := ents_getD hil
    generalize l.getD i ⟨[], 0, []⟩ = a at *
    repeat (first | refine E2 @e @hat ?_ | exact T2 @e @hat | refine W0 ?_ | refine O0 ?_)
    refine D3 [11, 12, 13, 14] [0] 16 ?_
    repeat (first | refine E1 @hat ?_ | exact T1 @hat | refine W0 ?_ | refine O0 ?_)
    refine Q0 (text_pure a.path (by omega)) ?_
    repeat (first | refine E0 ?_ | exact T0 | refine W0 ?_ | refine O0 ?_)
    have hw : (UInt64.ofNat a.size).toNat = a.size := by simp; omega
    have hsm := small_pure (UInt64.ofNat a.size)
    rw [hw] at hsm
    refine Q0 (hsm) ?_
    repeat (first | refine E0 ?_ | exact T0 | refine W0 ?_ | refine O0 ?_)
    refine Q0 (octets_pure a.digest (by omega)) ?_
    repeat (first | refine E0 ?_ | exact T0 | refine W0 ?_ | refine O0 ?_)
    refine C0 (seq_pure 0x30 [textN a.path, smallN (UInt64.ofNat a.size), octetsN a.digest]) ?_
    repeat (first | refine E0 ?_ | exact T0 | refine W0 ?_ | refine O0 ?_)
    have hmin : min (i + 1) l.length = i + 1 := by omega
    have hat2 : seqN 0x30 [textN a.path, smallN (UInt64.ofNat a.size), octetsN a.digest] = enNd a := rfl
    exact ⟨⟨i + 1, by omega⟩, _, fitsO [0, 1, 6] (G2 @hXl @hmin) (G2 @hX2 @hat2), by simp; omega⟩
  · have hil : i = l.length := by omega
    subst hil
    have hX3 : l.map enNd = X := by rw [← hX, List.take_of_length_le (Nat.le_refl _)]
    (first | refine E1 @e ?_ | exact T1 @e)
    refine draw_freeze [2] ?_
    (first | refine E0 ?_ | exact T0)
    refine D2 [8, 9, 10] ?_
    repeat (first | refine E0 ?_ | exact T0 | refine W0 ?_ | refine O0 ?_)
    refine Q0 (text_pure name (by omega)) ?_
    repeat (first | refine E0 ?_ | exact T0 | refine W0 ?_ | refine O0 ?_)
    refine Q0 (small_pure counter) ?_
    repeat (first | refine E0 ?_ | exact T0 | refine W0 ?_ | refine O0 ?_)
    refine Q0 (seq_pure 0x30 X) ?_
    repeat (first | refine E0 ?_ | exact T0 | refine W0 ?_ | refine O0 ?_)
    refine C0 (seq_pure 0x30 [textN name, smallN counter, seqN 0x30 X]) ?_
    repeat (first | refine E0 ?_ | exact T0 | refine W0 ?_ | refine O0 ?_)
    rw [maNd, hX3]
theorem maNd_pure (m : MaN) (h : OkMa m) : Pure Tryz.prog 84 [manA m] (nodeA (maNd m)) := by
  refine enterO [0, 1, 2, 5] [.cell 2 69] Tryz.func84 ?_
  repeat (first | refine E0 ?_ | exact T0 | refine W0 ?_ | refine O0 ?_ | refine D0 ?_)
  refine C0 (isMa_pure m h) ?_
  repeat (first | refine E0 ?_ | exact T0 | refine W0 ?_ | refine O0 ?_ | refine D0 ?_)
  refine C0 (maNd0_pure m h) ?_
  repeat (first | refine E0 ?_ | exact T0 | refine W0 ?_ | refine O0 ?_ | refine D0 ?_)
theorem great23_pure (p : PkN) (h : OkPk p) : Pure Tryz.prog 158 [packA p] (.bool false) := by
  obtain ⟨mf, sg, c, l⟩ := p
  have fo := h.fo
  have f12 := h.f12
  simp only at *
  refine enterO [0, 1, 2, 3, 8, 17] [.tmp 2] Tryz.func158 ?_
  repeat (first | refine E0 ?_ | exact T0 | refine W0 ?_ | refine O0 ?_ | refine D0 ?_)
  refine loop_inv (α := {i : Nat // i ≤ l.length}) (fun i => ⟨[(1, .vp 0 0), (3, .int .i64 i.1)], [.var (packA ⟨mf, sg, c, l⟩)]⟩) (fun i => l.length - i.1) ⟨0, Nat.zero_le _⟩
    (by exact fitsO [0] (G0) (G0)) (fun ⟨i, hi⟩ => ?_)
  repeat (first | refine E0 ?_ | exact T0 | refine W0 ?_ | refine O0 ?_ | refine D0 ?_)
  refine onB_d (fun h1 e => ?_) (fun h1 e => ?_)
  · have hil : i < l.length := by omega
    have p3 := fo (l.getD i []) (by simp [List.getD, hil])
    have e1 : decide (((l.getD i []).length : Int) > 600) = false := decide_eq_false (by omega)
    repeat (first | refine E3 @e (files_getD hil) @e1 ?_ | exact T3 @e (files_getD hil) @e1 | refine W0 ?_ | refine O0 ?_ | refine D0 ?_)
    exact ⟨⟨i + 1, by omega⟩, _, fitsO [0] (G0) (G0), by simp; omega⟩
  · have e2 : decide ((l.length : Int) > 12) = false := decide_eq_false (by omega)
    repeat (first | refine E2 @e @e2 ?_ | exact T2 @e @e2 | refine W0 ?_ | refine O0 ?_ | refine D0 ?_)
theorem pkNd_pure (p : PkN) (h : OkPk p) : Pure Tryz.prog 83 [packA p] (nodeA (pkNd p)) := by
  obtain ⟨mf, sg, c, l⟩ := p
  have fo := h.fo
  have f12 := h.f12
  have hm := h.m
  have hg := h.g2
  have hc := h.c
  simp only at *
  refine enterO [0, 1, 2, 3, 4, 5, 6, 7, 8, 9, 10, 15, 31, 47, 63] [.cell 2 69] Tryz.func83 ?_
  repeat (first | refine E0 ?_ | exact T0 | refine W0 ?_ | refine O0 ?_ | refine D0 ?_)
  refine loop_inv (α := {i : Nat // i ≤ 1}) (fun i => ⟨[(1, .vp 0 0), (2, .vp 1 0), (3, slV 2 3 (([ceNd c].take i.1)).length), (4, .nils), (5, .nils), (6, .nils), (7, .int .i64 i.1)], [.var (packA ⟨mf, sg, c, l⟩), .var (.agg [.int .u8 0, .nils, .nils]), rowB true 3 (([ceNd c].take i.1).map nodeA)]⟩) (fun i => 1 - i.1) ⟨0, Nat.zero_le _⟩
    (by exact fitsO [0, 1, 2] (G0) (G0)) (fun ⟨i, hi⟩ => ?_)
  rcases (show i = 0 ∨ i = 1 by omega) with hi0 | hi0
  · subst hi0
    repeat (first | refine E0 ?_ | exact T0 | refine W0 ?_ | refine O0 ?_ | refine D0 ?_)
    refine C0 (ceNd_pure c hc) ?_
    repeat (first | refine E0 ?_ | exact T0 | refine W0 ?_ | refine O0 ?_ | refine D0 ?_)
    exact ⟨⟨1, by omega⟩, _, fitsO [0, 1, 4] (G0) (G0), by simp⟩
  · subst hi0
    repeat (first | refine E0 ?_ | exact T0 | refine W0 ?_ | refine O0 ?_ | refine D0 ?_)
    refine loop_inv (α := Unit) (fun _ => ⟨[(1, .vp 0 0), (2, .vp 1 0), (3, .sl 2 3 0 1), (4, .nils), (5, .nils), (6, .nils), (8, .int .i64 0)], [.var (packA ⟨mf, sg, c, l⟩), .var (.agg [.int .u8 0, .nils, .nils]), .row true 3 [nodeA (ceNd c)]]⟩) (fun i => 0) ()
      (by exact fitsO [0, 1, 2] (G1 @slV_succ) (G0)) (fun _ => ?_)
    repeat (first | refine E0 ?_ | exact T0 | refine W0 ?_ | refine O0 ?_ | refine D0 ?_)
    refine loop_inv (α := Unit) (fun _ => ⟨[(1, .vp 0 0), (2, .vp 1 0), (3, .sl 2 3 0 1), (4, .nils), (5, .nils), (6, .nils), (9, .int .i64 0)], [.var (packA ⟨mf, sg, c, l⟩), .var (.agg [.int .u8 0, .nils, .nils]), .row true 3 [nodeA (ceNd c)]]⟩) (fun i => 0) ()
      (by exact fitsO [0, 1, 2] (G1 @slV_succ) (G0)) (fun _ => ?_)
    repeat (first | refine E0 ?_ | exact T0 | refine W0 ?_ | refine O0 ?_ | refine D0 ?_)
    refine loop_inv (α := {i : Nat // i ≤ l.length}) (fun i => ⟨[(1, .vp 0 0), (2, .vp 1 0), (3, .sl 2 3 0 1), (4, .nils), (5, .nils), (6, slV 3 3 ((l.take i.1).map octetsN).length), (10, .int .i64 i.1)], [.var (packA ⟨mf, sg, c, l⟩), .var (.agg [.int .u8 0, .nils, .nils]), .row true 3 [nodeA (ceNd c)], rowB true 3 (((l.take i.1).map octetsN).map nodeA)]⟩) (fun i => l.length - i.1) ⟨0, Nat.zero_le _⟩
      (by exact fitsO [0, 1, 2, 3] (G0) (G0)) (fun ⟨i, hi⟩ => ?_)
    simp only
    generalize hX : (l.take i).map octetsN = X
    have hXl : X.length = i := by rw [← hX]; simp; omega
    repeat (first | refine E0 ?_ | exact T0 | refine W0 ?_ | refine O0 ?_ | refine D0 ?_)
    refine onB_d (fun h1 e => ?_) (fun h1 e => ?_)
    · have hil : i < l.length := by omega
      have p3 := fo (l.getD i []) (by simp [List.getD, hil])
      have hX2 : (l.take (i + 1)).map octetsN = X ++ [octetsN (l.getD i [])] := by
        rw [← hX, List.take_succ, List.map_append]; simp [List.getD, hil]
      have hXm : min (i + 1) l.length = X.length + 1 := by omega
      repeat (first | refine E2 @e (files_getD hil) ?_ | exact T2 @e (files_getD hil) | refine W0 ?_ | refine O0 ?_ | refine D0 ?_)
      refine C0 (octets_pure (l.getD i []) (by omega)) ?_
      repeat (first | refine E0 ?_ | exact T0 | refine W0 ?_ | refine O0 ?_ | refine D0 ?_)
      refine ⟨⟨i + 1, by omega⟩, _, fitsO [0, 1, 2, 5] (G1 @hXm) (G1 @hX2), by simp; omega⟩
    · have hil : i = l.length := by omega
      subst hil
      have hX3 : l.map octetsN = X := by rw [← hX, List.take_of_length_le (Nat.le_refl _)]
      (first | refine E1 @e ?_ | exact T1 @e)
      refine draw_freeze [2, 3] ?_
      (first | refine E0 ?_ | exact T0)
      refine D2 [14, 15, 16] ?_
      repeat (first | refine E0 ?_ | exact T0 | refine W0 ?_ | refine O0 ?_)
      refine Q0 (octets_pure mf (by omega)) ?_
      repeat (first | refine E0 ?_ | exact T0 | refine W0 ?_ | refine O0 ?_)
      refine Q0 (bits3_pure sg (by omega)) ?_
      repeat (first | refine E0 ?_ | exact T0 | refine W0 ?_ | refine O0 ?_)
      refine Q0 (seq_pure 0x30 [ceNd c]) ?_
      repeat (first | refine E0 ?_ | exact T0 | refine W0 ?_ | refine O0 ?_)
      refine Q0 (seq_pure 0x30 []) ?_
      repeat (first | refine E0 ?_ | exact T0 | refine W0 ?_ | refine O0 ?_)
      refine Q0 (seq_pure 0x30 []) ?_
      repeat (first | refine E0 ?_ | exact T0 | refine W0 ?_ | refine O0 ?_)
      refine Q0 (seq_pure 0x30 X) ?_
      repeat (first | refine E0 ?_ | exact T0 | refine W0 ?_ | refine O0 ?_)
      refine C0 (seq_pure 0x30 [octetsN mf, bits3N sg, seqN 0x30 [ceNd c], seqN 0x30 [], seqN 0x30 [], seqN 0x30 X]) ?_
      repeat (first | refine E0 ?_ | exact T0 | refine W0 ?_ | refine O0 ?_)
      rw [pkNd, hX3]
end
section
open Go Go.AM Go.Proofs
set_option maxRecDepth 10000
set_option linter.all false
theorem isPk_pure (p : PkN) (h : OkPk p) : Pure Tryz.prog 82 [packA p] (.bool (isNd (pkNd p))) := by
  refine enterO [0, 1, 2, 3, 4, 38, 43, 52, 57, 66] [.tmp 2] Tryz.func82 ?_
  repeat (first | refine E0 ?_ | exact T0 | refine W0 ?_ | refine O0 ?_ | refine D0 ?_)
  refine C0 (great23_pure p h) ?_
  repeat (first | refine E0 ?_ | exact T0 | refine W0 ?_ | refine O0 ?_ | refine D0 ?_)
  refine C0 (signed_pure p.sig h.g1 h.g2) ?_
  repeat (first | refine E0 ?_ | exact T0 | refine W0 ?_ | refine O0 ?_ | refine D0 ?_)
  refine loop_inv (α := {i : Nat // i ≤ 1}) (fun i => ⟨[(1, .vp 0 0), (3, .int .i64 i.1)], [.var (packA p)]⟩) (fun i => 1 - i.1) ⟨0, Nat.zero_le _⟩
    (by exact fitsO [0] (G0) (G0)) (fun ⟨i, hi⟩ => ?_)
  rcases (show i = 0 ∨ i = 1 by omega) with hi0 | hi0
  · subst hi0
    repeat (first | refine E0 ?_ | exact T0 | refine W0 ?_ | refine O0 ?_ | refine D0 ?_)
    refine C0 (isCe_pure p.cert h.c) ?_
    repeat (first | refine E0 ?_ | exact T0 | refine W0 ?_ | refine O0 ?_ | refine D0 ?_)
    exact ⟨⟨1, by omega⟩, _, fitsO [0] (G0) (G0), by simp⟩
  · subst hi0
    repeat (first | refine E0 ?_ | exact T0 | refine W0 ?_ | refine O0 ?_ | refine D0 ?_)
    refine loop_inv (α := Unit) (fun _ => ⟨[(1, .vp 0 0), (4, .int .i64 0)], [.var (packA p)]⟩) (fun i => 0) ()
      (by exact fitsO [0] (G0) (G0)) (fun _ => ?_)
    repeat (first | refine E0 ?_ | exact T0 | refine W0 ?_ | refine O0 ?_ | refine D0 ?_)
    refine C0 (pkNd_pure p h) ?_
    repeat (first | refine E0 ?_ | exact T0 | refine W0 ?_ | refine O0 ?_ | refine D0 ?_)
    have hs := size_pk h
    refine C0 (isNd_pure (pkNd p) (by omega)) ?_
    repeat (first | refine E0 ?_ | exact T0 | refine W0 ?_ | refine O0 ?_ | refine D0 ?_)
theorem pkBytes_pure (p : PkN) (h : OkPk p) : Pure Tryz.prog 33 [packA p] (bytesA (pkBytes p)) := by
  unfold pkBytes
  refine enterO [0, 1, 2, 5] [.tmp 2] Tryz.func33 ?_
  repeat (first | refine E0 ?_ | exact T0 | refine W0 ?_ | refine O0 ?_ | refine D0 ?_)
  refine C0 (isPk_pure p h) ?_
  repeat (first | refine E0 ?_ | exact T0 | refine W0 ?_ | refine O0 ?_ | refine D0 ?_)
  refine onB_split (fun h1 => ?_) (fun h1 => ?_)
  · repeat (first | refine E1 @h1 ?_ | exact T1 @h1 | refine W0 ?_ | refine O0 ?_ | refine D0 ?_)
    refine C0 (pkNd_pure p h) ?_
    repeat (first | refine E0 ?_ | exact T0 | refine W0 ?_ | refine O0 ?_ | refine D0 ?_)
    have hs := size_pk h
    refine C0 (ndBytes_pure (pkNd p) (by omega)) ?_
    repeat (first | refine E0 ?_ | exact T0 | refine W0 ?_ | refine O0 ?_ | refine D0 ?_)
    rw [if_pos h1]
  · repeat (first | refine E1 @h1 ?_ | exact T1 @h1 | refine W0 ?_ | refine O0 ?_ | refine D0 ?_)
    rfl
def pN (n : Nat) : List UInt32 := List.replicate (n / 32) (0xffffffff : UInt32) ++ [(1 <<< UInt32.ofNat (n % 32)) - 1]
def pKey (n : Nat) : KeyN := ⟨1, pN n, 65537, [], [], false⟩
def pM (n : Nat) : List UInt32 := (subO (pN n) [1]).1
def pD (n : Nat) : List UInt32 := (invN 65537 (pM n)).1
def repP (k i : Nat) : List UInt32 := List.replicate i (0xffffffff : UInt32) ++ List.replicate (k + 1 - i) 0
theorem repP_len {k i : Nat} (h : i ≤ k) : (repP k i).length = k + 1 := by simp [repP]; omega
theorem repP_step {k i : Nat} (h : i < k) : (repP k i).set i 0xffffffff = repP k (i + 1) := by
  unfold repP
  rw [List.set_append_right _ _ (by simp)]
  rw [show k + 1 - i = (k + 1 - (i + 1)) + 1 by omega, List.replicate_succ]
  simp [List.replicate_succ']
theorem prime521 (way : Int) (hw : (andI .i64 way 1 == 1) = false) : Pure Tryz.prog 44 [.int .i64 way] (.tup [keyA (pKey 521), natA (pD 521)]) := by
  have hm : okM (pM 521) := by
    show 0 < (pM 521).length ∧ (pM 521).getD ((pM 521).length - 1) 0 ≠ 0
    decide +kernel
  have hm2 : 2 ≤ (pM 521).length ∧ (pM 521).length < 100 := by decide +kernel
  have hpl : (pN 521).length = 17 := by decide +kernel
  refine enterO [0, 2, 3, 4, 5, 6, 7, 9, 13, 21] [.cell 2 30, .tmp 3] Tryz.func44 ?_
  have w1 : IntKind.i64.wrap ((521 : Int).tdiv 32) = 16 := by decide +kernel
  have w2 : IntKind.i64.wrap (16 + 1) = 17 := by decide +kernel
  have w3 : (521 : Int).tmod 32 = 9 := by decide +kernel
  have w4 : IntKind.u64.wrap 9 = 9 := by decide +kernel
  have s1 : shlI .u32 1 9 = (((1 : UInt32) <<< (9 : UInt32)).toNat : Int) := u32_shl 1 (n := 9) (by decide)
  repeat (first | refine E3 @hw @w1 @w2 ?_ | exact T3 @hw @w1 @w2 | refine W0 ?_ | refine O0 ?_ | refine D0 ?_)
  refine loop_inv (α := {i : Nat // i ≤ 16}) (fun i => ⟨[(2, .vp 0 0), (4, .int .i64 521), (5, .sl 1 1 0 17), (6, .int .i64 i.1)], [.var (.agg [.int .i64 0, .nils, .int .u32 0, .nils, .nils, .bool false]), .row true 1 ((repP 16 i.1).map wordA)]⟩) (fun i => 16 - i.1) ⟨0, Nat.zero_le _⟩
    (by exact fitsO [0, 1] (G0) (by (first | refine E0 ?_ | exact T0); rfl)) (fun ⟨i, hi⟩ => ?_)
  have hrl := repP_len hi
  repeat (first | refine E1 @w1 ?_ | exact T1 @w1 | refine W0 ?_ | refine O0 ?_ | refine D0 ?_)
  refine onB_d (fun h1 e => ?_) (fun h1 e => ?_)
  · have hik : i < 16 := by omega
    repeat (first | refine E1 @e ?_ | exact T1 @e | refine W0 ?_ | refine O0 ?_ | refine D0 ?_)
    refine ⟨⟨i + 1, by omega⟩, _, fitsO [0, 1] (G0) (G1 (repP_step hik)), by simp; omega⟩
  · have hik : i = 16 := by omega
    subst hik
    have hp : (repP 16 16).set 16 (((1 : UInt32) <<< (9 : UInt32)) - 1) = pN 521 := by decide +kernel
    repeat (first | refine E7 @e @w1 @w3 @w4 @s1 @hp @hpl ?_ | exact T7 @e @w1 @w3 @w4 @s1 @hp @hpl | refine W0 ?_ | refine O0 ?_ | refine D0 ?_)
    refine C0 (sub_pure (pN 521) [1] (by omega) (by simp)) ?_
    repeat (first | refine E0 ?_ | exact T0 | refine W0 ?_ | refine O0 ?_ | refine D0 ?_)
    refine C0 (inv_pure 65537 (pM 521) (by decide) (by omega) hm2.1 hm) ?_
    repeat (first | refine E0 ?_ | exact T0 | refine W0 ?_ | refine O0 ?_ | refine D0 ?_)
    rfl
theorem prime607 (way : Int) (hw : (andI .i64 way 1 == 1) = true) : Pure Tryz.prog 44 [.int .i64 way] (.tup [keyA (pKey 607), natA (pD 607)]) := by
  have hm : okM (pM 607) := by
    show 0 < (pM 607).length ∧ (pM 607).getD ((pM 607).length - 1) 0 ≠ 0
    decide +kernel
  have hm2 : 2 ≤ (pM 607).length ∧ (pM 607).length < 100 := by decide +kernel
  have hpl : (pN 607).length = 19 := by decide +kernel
  refine enterO [0, 2, 3, 4, 5, 6, 7, 9, 13, 21] [.cell 2 30, .tmp 3] Tryz.func44 ?_
  have w1 : IntKind.i64.wrap ((607 : Int).tdiv 32) = 18 := by decide +kernel
  have w2 : IntKind.i64.wrap (18 + 1) = 19 := by decide +kernel
  have w3 : (607 : Int).tmod 32 = 31 := by decide +kernel
  have w4 : IntKind.u64.wrap 31 = 31 := by decide +kernel
  have s1 : shlI .u32 1 31 = (((1 : UInt32) <<< (31 : UInt32)).toNat : Int) := u32_shl 1 (n := 31) (by decide)
  repeat (first | refine E3 @hw @w1 @w2 ?_ | exact T3 @hw @w1 @w2 | refine W0 ?_ | refine O0 ?_ | refine D0 ?_)
  refine loop_inv (α := {i : Nat // i ≤ 18}) (fun i => ⟨[(2, .vp 0 0), (4, .int .i64 607), (5, .sl 1 1 0 19), (6, .int .i64 i.1)], [.var (.agg [.int .i64 0, .nils, .int .u32 0, .nils, .nils, .bool false]), .row true 1 ((repP 18 i.1).map wordA)]⟩) (fun i => 18 - i.1) ⟨0, Nat.zero_le _⟩
    (by exact fitsO [0, 1] (G0) (by (first | refine E0 ?_ | exact T0); rfl)) (fun ⟨i, hi⟩ => ?_)
  have hrl := repP_len hi
  repeat (first | refine E1 @w1 ?_ | exact T1 @w1 | refine W0 ?_ | refine O0 ?_ | refine D0 ?_)
  refine onB_d (fun h1 e => ?_) (fun h1 e => ?_)
  · have hik : i < 18 := by omega
    repeat (first | refine E1 @e ?_ | exact T1 @e | refine W0 ?_ | refine O0 ?_ | refine D0 ?_)
    refine ⟨⟨i + 1, by omega⟩, _, fitsO [0, 1] (G0) (G1 (repP_step hik)), by simp; omega⟩
  · have hik : i = 18 := by omega
    subst hik
    have hp : (repP 18 18).set 18 (((1 : UInt32) <<< (31 : UInt32)) - 1) = pN 607 := by decide +kernel
    repeat (first | refine E7 @e @w1 @w3 @w4 @s1 @hp @hpl ?_ | exact T7 @e @w1 @w3 @w4 @s1 @hp @hpl | refine W0 ?_ | refine O0 ?_ | refine D0 ?_)
    refine C0 (sub_pure (pN 607) [1] (by omega) (by simp)) ?_
    repeat (first | refine E0 ?_ | exact T0 | refine W0 ?_ | refine O0 ?_ | refine D0 ?_)
    refine C0 (inv_pure 65537 (pM 607) (by decide) (by omega) hm2.1 hm) ?_
    repeat (first | refine E0 ?_ | exact T0 | refine W0 ?_ | refine O0 ?_ | refine D0 ?_)
    rfl
end
section
open Go Go.AM Go.Proofs
set_option maxRecDepth 10000
set_option linter.all false
structure WayP (way : Int) (n : Nat) : Prop where
  ec : (andI .i64 way 2 == 2) = false
  p : (andI .i64 way 1 == 1) = decide (n = 607)
  n : n = 521 ∨ n = 607
theorem prime_way {way : Int} {n : Nat} (h : WayP way n) : Pure Tryz.prog 44 [.int .i64 way] (.tup [keyA (pKey n), natA (pD n)]) := by
  have hp := h.p
  rcases h.n with e | e
  · subst e; exact prime521 way hp
  · subst e; exact prime607 way hp
theorem okKey {n : Nat} (h : n = 521 ∨ n = 607) : OkRsa (pKey n) := by
  rcases h with h | h <;> subst h <;> (constructor <;> decide +kernel)
theorem okMp {n : Nat} (h : n = 521 ∨ n = 607) : okM (pN n) := by
  rcases h with h | h <;> subst h
  · show 0 < (pN 521).length ∧ (pN 521).getD ((pN 521).length - 1) 0 ≠ 0
    decide +kernel
  · show 0 < (pN 607).length ∧ (pN 607).getD ((pN 607).length - 1) 0 ≠ 0
    decide +kernel
theorem okSz {n : Nat} (h : n = 521 ∨ n = 607) : 62 ≤ sizeN (pN n) ∧ sizeN (pN n) ≤ 100 ∧ (pN n).length < 100 ∧ (pM n).length < 100 := by
  rcases h with h | h <;> subst h <;> decide +kernel
theorem okMm {n : Nat} (h : n = 521 ∨ n = 607) : okM (pM n) := by
  rcases h with h | h <;> subst h
  · show 0 < (pM 521).length ∧ (pM 521).getD ((pM 521).length - 1) 0 ≠ 0
    decide +kernel
  · show 0 < (pM 607).length ∧ (pM 607).getD ((pM 607).length - 1) 0 ≠ 0
    decide +kernel
theorem own_pure (way : Int) (n : Nat) (h : WayP way n) : Pure Tryz.prog 17 [.int .i64 way] (keyA (pKey n)) := by
  have z := h.ec
  refine enterO [0, 2, 3, 7] [.cell 2 30] Tryz.func17 ?_
  repeat (first | refine E1 @z ?_ | exact T1 @z | refine W0 ?_ | refine O0 ?_ | refine D0 ?_)
  refine C0 (prime_way h) ?_
  repeat (first | refine E0 ?_ | exact T0 | refine W0 ?_ | refine O0 ?_ | refine D0 ?_)
def signsN (n : Nat) (d : List UInt8) : List UInt8 := signN (pN n) (pD n) d
theorem signs_pure (way : Int) (n : Nat) (h : WayP way n) (d : List UInt8) (hd : d.length = 32) : Pure Tryz.prog 18 [.int .i64 way, bytesA d] (bytesA (signsN n d)) := by
  have z := h.ec
  have hs := okSz h.n
  have hdl := invN_len 65537 (okMm h.n)
  have hpd : (pD n).length < 50000 := by unfold pD; omega
  refine enterO [0, 1, 4, 5, 7, 8, 11] [.tmp 4] Tryz.func18 ?_
  repeat (first | refine E1 @z ?_ | exact T1 @z | refine W0 ?_ | refine O0 ?_ | refine D0 ?_)
  refine C0 (prime_way h) ?_
  repeat (first | refine E0 ?_ | exact T0 | refine W0 ?_ | refine O0 ?_ | refine D0 ?_)
  refine C0 (sign_pure (pKey n) (pD n) d (by have := hs.2.2.1; show (pN n).length < 256; omega) hpd hd (okMp h.n) hs.1 (by have := hs.2.1; show sizeN (pN n) ≤ 1024; omega)) ?_
  repeat (first | refine E0 ?_ | exact T0 | refine W0 ?_ | refine O0 ?_ | refine D0 ?_)
  rfl
def saysN (last : UInt8) (cr : Bool) (n : Nd) : ExN := ⟨[0x55, 0x1d, last], cr, ndBytes n⟩
theorem says_pure (last : UInt8) (cr : Bool) (n : Nd) (hn : sizeNd n < 1000000) : Pure Tryz.prog 20 [.int .u8 last.toNat, .bool cr, nodeA n] (extA (saysN last cr n)) := by
  refine enterO [0, 1, 2, 5, 6] [.cell 6 37] Tryz.func20 ?_
  repeat (first | refine E0 ?_ | exact T0 | refine W0 ?_ | refine O0 ?_ | refine D0 ?_)
  refine C0 (ndBytes_pure n hn) ?_
  repeat (first | refine E0 ?_ | exact T0 | refine W0 ?_ | refine O0 ?_ | refine D0 ?_)
  rfl
def usesN (last : UInt8) : ExN := saysN 0x25 false (seqN 0x30 [idN [0x2b, 6, 1, 5, 5, 7, 3, last]])
theorem uses_pure (last : UInt8) : Pure Tryz.prog 85 [.int .u8 last.toNat] (extA (usesN last)) := by
  refine enterO [0, 2] [.cell 2 37] Tryz.func85 ?_
  repeat (first | refine E0 ?_ | exact T0 | refine W0 ?_ | refine O0 ?_ | refine D0 ?_)
  refine C0 (id_pure [0x2b, 6, 1, 5, 5, 7, 3, last] (by simp)) ?_
  repeat (first | refine E0 ?_ | exact T0 | refine W0 ?_ | refine O0 ?_ | refine D0 ?_)
  refine C0 (seq_pure 0x30 [idN [0x2b, 6, 1, 5, 5, 7, 3, last]]) ?_
  repeat (first | refine E0 ?_ | exact T0 | refine W0 ?_ | refine O0 ?_ | refine D0 ?_)
  refine C0 (says_pure 0x25 false (seqN 0x30 [idN [0x2b, 6, 1, 5, 5, 7, 3, last]]) (by rw [size_seq, size_cons, size_nil, idN, size_prim]; simp)) ?_
  repeat (first | refine E0 ?_ | exact T0 | refine W0 ?_ | refine O0 ?_ | refine D0 ?_)
  rfl
def made0 (serial : UInt32) (subject issuer : List UInt8) (n : Nat) (exts : List ExN) : CeN := ⟨[serial ||| 1], [⟨3, issuer⟩], 631152000, 2631152000, [⟨3, subject⟩], pKey n, exts, [0]⟩
def madeN (serial : UInt32) (subject issuer : List UInt8) (n by_ : Nat) (exts : List ExN) : CeN := { made0 serial subject issuer n exts with sig := signsN by_ (ceDigest (made0 serial subject issuer n exts)) }
theorem made_cert (serial : UInt32) (subject issuer : List UInt8) (n : Nat) (exts : List ExN) (sig : List UInt8) : certA { made0 serial subject issuer n exts with sig := sig } = .agg [natA [serial ||| 1], tsE 2 [attrA ⟨3, issuer⟩], .int .i64 0, .int .i64 2000000000, tsE 2 [attrA ⟨3, subject⟩],
      .int .i64 1, natA (pN n), .int .u32 65537, natA [], natA [], .bool false, tsE 3 (exts.map extA), bytesA sig] := by
  have e1 : ((631152000 : Nat) : Int) - 631152000 = 0 := by decide
  have e2 : ((2631152000 : Nat) : Int) - 631152000 = 2000000000 := by decide
  have e3 : ((65537 : UInt32).toNat : Int) = 65537 := by decide
  simp only [certA, made0, pKey, List.map_cons, List.map_nil, e1, e2, e3]
theorem made_pure (serial : UInt32) (subject issuer : List UInt8) (way by_ : Int) (n m : Nat) (exts : List ExN) (hw : WayP way n) (hb : WayP by_ m) (h : OkCe (made0 serial subject issuer n exts)) :
    Pure Tryz.prog 6 [.int .u32 serial.toNat, strA subject, strA issuer, .int .i64 way, .int .i64 by_, tsE 3 (exts.map extA)] (certA (madeN serial subject issuer n m exts)) := by
  refine enterO [0, 1, 2, 3, 4, 5, 12, 13] [.cell 12 34] Tryz.func6 ?_
  repeat (first | refine E0 ?_ | exact T0 | refine W0 ?_ | refine O0 ?_ | refine D0 ?_)
  refine C0 (own_pure way n hw) ?_
  repeat (first | refine E0 ?_ | exact T0 | refine W0 ?_ | refine O0 ?_ | refine D0 ?_)
  have hc : certA (made0 serial subject issuer n exts) = .agg [natA [serial ||| 1], tsE 2 [attrA ⟨3, issuer⟩], .int .i64 0, .int .i64 2000000000, tsE 2 [attrA ⟨3, subject⟩],
      .int .i64 1, natA (pN n), .int .u32 65537, natA [], natA [], .bool false, tsE 3 (exts.map extA), bytesA [0]] := made_cert serial subject issuer n exts [0]
  refine C1 @hc (ceDigest_pure (made0 serial subject issuer n exts) h) ?_
  repeat (first | refine E0 ?_ | exact T0 | refine W0 ?_ | refine O0 ?_ | refine D0 ?_)
  have hl := shaN_len (ndBytes (bodyNd (made0 serial subject issuer n exts)))
  refine C0 (signs_pure by_ m hb (ceDigest (made0 serial subject issuer n exts)) hl) ?_
  repeat (first | refine E0 ?_ | exact T0 | refine W0 ?_ | refine O0 ?_ | refine D0 ?_)
  rw [madeN, made_cert]
  rfl
end
section
open Go Go.AM Go.Proofs
set_option maxRecDepth 10000
set_option linter.all false
def leafS : List UInt8 := [108, 101, 97, 102]
def rootS : List UInt8 := [114, 111, 111, 116]
def ma0 (c : UInt64) : MaN := ⟨[109], c, []⟩
theorem okMa0 (c : UInt64) : OkMa (ma0 c) where
  n0 := by simp [ma0]
  n64 := by simp [ma0]
  nc := by simp [ma0]
  f12 := by simp [ma0]
  fo := by simp [ma0]
  up := by simp [ma0]
theorem okCe0 : OkCe (made0 3 leafS rootS 607 [usesN 3]) where
  s1 := by decide +kernel
  s2 := by decide +kernel
  s3 := by decide +kernel
  s4 := by decide +kernel
  i1 := by decide +kernel
  i4 := by decide +kernel
  io := by
    intro a ha
    simp only [made0, List.mem_cons, List.not_mem_nil, or_false] at ha
    subst ha
    exact ⟨.inl rfl, by simp [rootS], by simp [rootS], by simp only [rootS]; decide⟩
  u1 := by decide +kernel
  u4 := by decide +kernel
  uo := by
    intro a ha
    simp only [made0, List.mem_cons, List.not_mem_nil, or_false] at ha
    subst ha
    exact ⟨.inl rfl, by simp [leafS], by simp [leafS], by simp only [leafS]; decide⟩
  f1 := by decide +kernel
  t1 := by decide +kernel
  ft := by decide +kernel
  f2 := by decide +kernel
  t2 := by decide +kernel
  k := okKey (.inr rfl)
  e := ⟨usesN 3, rfl, by decide +kernel, by decide +kernel, by decide +kernel⟩
  g1 := by decide +kernel
  g2 := by decide +kernel
def ce0 : CeN := madeN 3 leafS rootS 607 521 [usesN 3]
theorem okCe_sg {c : CeN} (h : OkCe c) (s : List UInt8) (h1 : 1 ≤ s.length) (h2 : s.length ≤ 600) : OkCe { c with sig := s } :=
  { s1 := h.s1, s2 := h.s2, s3 := h.s3, s4 := h.s4, i1 := h.i1, i4 := h.i4, io := h.io, u1 := h.u1, u4 := h.u4, uo := h.uo, f1 := h.f1, t1 := h.t1, ft := h.ft, f2 := h.f2, t2 := h.t2, k := h.k, e := h.e, g1 := h1, g2 := h2 }
theorem okCe1 : OkCe ce0 := by
  have hl : (signsN 521 (ceDigest (made0 3 leafS rootS 607 [usesN 3]))).length = sizeN (pN 521) := signN_len _ _ _
  have hs := okSz (n := 521) (.inl rfl)
  unfold ce0 madeN
  exact okCe_sg okCe0 _ (by rw [hl]; omega) (by rw [hl]; omega)
theorem laid_pos (n : Nd) : 0 < (laidN n).length := by cases n; simp [laidN]
theorem pkBytes_pos {p : PkN} (h1 : soundN (pkNd p) 1 = true) (h2 : countN (pkNd p) ≤ 600) (h3 : sizeNd (pkNd p) ≤ 1200) : 0 < (pkBytes p).length := by
  have hl := laidN_len (pkNd p)
  have h : isNd (pkNd p) = true := by
    simp only [isNd, h1, Bool.true_and, Bool.and_eq_true, decide_eq_true_eq]
    exact ⟨h2, by omega⟩
  unfold pkBytes ndBytes
  rw [if_pos h, if_pos h]
  exact laid_pos _
def pk0 (c : UInt64) : PkN := ⟨ndBytes (maNd (ma0 c)), signsN 607 (shaN (ndBytes (maNd (ma0 c)))), ce0, []⟩
theorem okPk0 (c : UInt64) : OkPk (pk0 c) :=
  have hl : (pk0 c).sig.length = sizeN (pN 607) := signN_len _ _ _
  have hs := okSz (n := 607) (.inr rfl)
  { m := by have := ndBytes_len (maNd (ma0 c)); show (ndBytes (maNd (ma0 c))).length ≤ 100000; omega
    g1 := by rw [hl]; omega
    g2 := by rw [hl]; omega
    c := okCe1
    f12 := by simp [pk0]
    fo := by simp [pk0] }
theorem way1 : WayP 1 607 := ⟨by decide +kernel, by decide +kernel, .inr rfl⟩
theorem way0 : WayP 0 521 := ⟨by decide +kernel, by decide +kernel, .inl rfl⟩
theorem packed_pure (c : UInt64) : Pure Tryz.prog 34 [.int .u64 c.toNat, tsE 1 [], .bool false, .int .i64 0] (packA (pk0 c)) := by
  refine enterO [0, 1, 2, 3, 8, 9, 10, 11, 12, 18, 52, 67] [.cell 8 89] Tryz.func34 ?_
  repeat (first | refine E0 ?_ | exact T0 | refine W0 ?_ | refine O0 ?_ | refine D0 ?_)
  refine loop_inv (α := Unit) (fun _ => ⟨[(0, .int .u64 c.toNat), (1, tsE 1 []), (2, .bool false), (3, .int .i64 0), (8, .vp 0 0), (9, .vp 1 0), (10, .int .i64 0)], [.var (.agg [.nils, .nils, .nils, .nils, .nils, .nils]), .var (.agg [strA [109], .int .u64 c.toNat, .nils])]⟩) (fun i => 0) ()
    (by exact fitsO [0, 1] (G0) (G0)) (fun _ => ?_)
  repeat (first | refine E0 ?_ | exact T0 | refine W0 ?_ | refine O0 ?_ | refine D0 ?_)
  refine C0 (maNd_pure (ma0 c) (okMa0 c)) ?_
  repeat (first | refine E0 ?_ | exact T0 | refine W0 ?_ | refine O0 ?_ | refine D0 ?_)
  have hsm := size_ma (okMa0 c)
  refine C0 (ndBytes_pure (maNd (ma0 c)) (by omega)) ?_
  repeat (first | refine E0 ?_ | exact T0 | refine W0 ?_ | refine O0 ?_ | refine D0 ?_)
  have hnl := ndBytes_len (maNd (ma0 c))
  refine C0 (sha_pure (ndBytes (maNd (ma0 c))) (by omega)) ?_
  have hsl := shaN_len (ndBytes (maNd (ma0 c)))
  repeat (first | refine E0 ?_ | exact T0 | refine W0 ?_ | refine O0 ?_ | refine D0 ?_)
  refine C0 (signs_pure 1 607 way1 (shaN (ndBytes (maNd (ma0 c)))) hsl) ?_
  repeat (first | refine E0 ?_ | exact T0 | refine W0 ?_ | refine O0 ?_ | refine D0 ?_)
  refine C0 (uses_pure 3) ?_
  repeat (first | refine E0 ?_ | exact T0 | refine W0 ?_ | refine O0 ?_ | refine D0 ?_)
  have ho := okCe0
  refine C0 (made_pure 3 leafS rootS 1 0 607 521 [usesN 3] way1 way0 ho) ?_
  repeat (first | refine E0 ?_ | exact T0 | refine W0 ?_ | refine O0 ?_ | refine D0 ?_)
  rfl
theorem one_pure (c : UInt64) : Pure Tryz.prog 12 [.int .u64 c.toNat, tsE 1 []] (bytesA (pkBytes (pk0 c))) := by
  refine enterO [0, 1, 4] [.tmp 4] Tryz.func12 ?_
  repeat (first | refine E0 ?_ | exact T0 | refine W0 ?_ | refine O0 ?_ | refine D0 ?_)
  refine C0 (packed_pure c) ?_
  repeat (first | refine E0 ?_ | exact T0 | refine W0 ?_ | refine O0 ?_ | refine D0 ?_)
  refine C0 (pkBytes_pure (pk0 c) (okPk0 c)) ?_
  repeat (first | refine E0 ?_ | exact T0 | refine W0 ?_ | refine O0 ?_ | refine D0 ?_)
theorem pk0_sound (mf sg s2 : List UInt8) : soundN (pkNd ⟨mf, sg, { made0 3 leafS rootS 607 [usesN 3] with sig := s2 }, []⟩) 1 = true := by kernel_rfl
theorem pk0_count (mf sg s2 : List UInt8) : Nat.ble (countN (pkNd ⟨mf, sg, { made0 3 leafS rootS 607 [usesN 3] with sig := s2 }, []⟩)) 600 = true := by kernel_rfl
theorem size_body0 : Nat.ble (sizeNd (bodyNd (made0 3 leafS rootS 607 [usesN 3]))) 900 = true := by kernel_rfl
theorem size_pk0 {mf sg s2 : List UInt8} (h1 : mf.length ≤ 60) (h2 : sg.length ≤ 100) (h3 : s2.length ≤ 100) : sizeNd (pkNd ⟨mf, sg, { made0 3 leafS rootS 607 [usesN 3] with sig := s2 }, []⟩) ≤ 1200 := by
  have hb := Nat.le_of_ble_eq_true size_body0
  have e : bodyNd { made0 3 leafS rootS 607 [usesN 3] with sig := s2 } = bodyNd (made0 3 leafS rootS 607 [usesN 3]) := rfl
  generalize bodyNd (made0 3 leafS rootS 607 [usesN 3]) = B at hb e
  rw [pkNd, ceNd, e]
  simp only [size_seq, size_cons, size_nil, size_octets, size_bits3, List.map_nil]
  omega
theorem ma0_len : Nat.ble (ndBytes (maNd (ma0 1))).length 60 = true := by kernel_rfl
theorem pk0_some : 0 < (pkBytes (pk0 1)).length := by
  have h1 : (signsN 607 (shaN (ndBytes (maNd (ma0 1))))).length = sizeN (pN 607) := signN_len _ _ _
  have h2 : (signsN 521 (ceDigest (made0 3 leafS rootS 607 [usesN 3]))).length = sizeN (pN 521) := signN_len _ _ _
  have s1 := okSz (n := 607) (.inr rfl)
  have s2 := okSz (n := 521) (.inl rfl)
  have e : pk0 1 = ⟨ndBytes (maNd (ma0 1)), signsN 607 (shaN (ndBytes (maNd (ma0 1)))), { made0 3 leafS rootS 607 [usesN 3] with sig := signsN 521 (ceDigest (made0 3 leafS rootS 607 [usesN 3])) }, []⟩ := rfl
  rw [e]
  have hm := Nat.le_of_ble_eq_true ma0_len
  generalize signsN 607 (shaN (ndBytes (maNd (ma0 1)))) = sg at *
  generalize ndBytes (maNd (ma0 1)) = mf at *
  generalize signsN 521 (ceDigest (made0 3 leafS rootS 607 [usesN 3])) = s3 at *
  have a1 := pk0_sound mf sg s3
  have a2 := Nat.le_of_ble_eq_true (pk0_count mf sg s3)
  have a3 := size_pk0 (mf := mf) (sg := sg) (s2 := s3) hm (by omega) (by omega)
  exact pkBytes_pos a1 a2 a3
end
section
open Go Go.AM Go.Proofs
set_option maxRecDepth 10000
set_option linter.all false
namespace Go.AM
structure AnN where
  err : Int
  c : UInt64
def anA (x : AnN) : AV := .agg [.int .i64 x.err, .int .u64 x.c.toNat, .str ⟨#[]⟩, tsE 0 []]
theorem ans_getD {l : List AnN} {i : Nat} (h : i < l.length) (d : AV) : (l.map anA).getD i d = .agg [.int .i64 (l.getD i ⟨0, 0⟩).err, .int .u64 (l.getD i ⟨0, 0⟩).c.toNat, .str ⟨#[]⟩, tsE 0 []] := by simp [List.getD, h, anA]
def risesN : List AnN → UInt64 → Bool
  | [], _ => true
  | x :: r, z => if x.err ≠ 0 then risesN r z else if x.c < z then false else risesN r x.c
def lastOf : List AnN → UInt64 → UInt64
  | [], z => z
  | x :: r, z => lastOf r (if x.err ≠ 0 then z else x.c)
theorem rises_snoc (x : AnN) : ∀ (l : List AnN) (z : UInt64), risesN (l ++ [x]) z = (risesN l z && (decide (x.err ≠ 0) || decide (lastOf l z ≤ x.c))) := by
  intro l
  induction l with
  | nil =>
    intro z
    simp only [List.nil_append, risesN, lastOf, Bool.true_and]
    by_cases h : x.err = 0
    · simp only [h, ne_eq, not_true_eq_false, if_false, decide_false, Bool.false_or]
      by_cases h2 : x.c < z
      · rw [if_pos h2]; exact (decide_eq_false (by rw [UInt64.not_le]; exact h2)).symm
      · rw [if_neg h2]; exact (decide_eq_true (by rw [UInt64.not_lt] at h2; exact h2)).symm
    · simp [h]
  | cons y r ih =>
    intro z
    simp only [List.cons_append, risesN, lastOf]
    by_cases h : y.err = 0
    · simp only [h, ne_eq, not_true_eq_false, if_false]
      by_cases h2 : y.c < z
      · simp [h2]
      · simp only [h2, if_false]; exact ih _
    · simp only [h, ne_eq, not_false_eq_true, if_true]; exact ih _
theorem last_snoc (x : AnN) : ∀ (l : List AnN) (z : UInt64), lastOf (l ++ [x]) z = if x.err ≠ 0 then lastOf l z else x.c := by
  intro l
  induction l with
  | nil => intro z; rfl
  | cons y r ih => intro z; exact ih _
end Go.AM
theorem rises_pure (l : List AnN) (hl : l.length < 1000000) : Pure Tryz.prog 16 [tsE 4 (l.map anA)] (.bool (risesN l 0)) := by
  refine enterO [0, 2, 3, 5, 6, 7, 8, 9, 14, 18] [.tmp 2] Tryz.func16 ?_
  repeat (first | refine E0 ?_ | exact T0 | refine W0 ?_ | refine O0 ?_ | refine D0 ?_)
  refine loop_inv (α := {p : Nat × UInt64 // p.1 ≤ l.length ∧ risesN (l.drop p.1) p.2 = risesN l 0}) (fun p => ⟨[(3, .int .u64 p.1.2.toNat), (6, tsE 4 (l.map anA)), (7, .int .i64 l.length), (8, .int .i64 p.1.1)], []⟩) (fun p => l.length - p.1.1) ⟨(0, 0), Nat.zero_le _, rfl⟩
    (by exact fitsO [] (G0) (G0)) (fun ⟨⟨i, z⟩, hi, hr⟩ => ?_)
  simp only at hi hr
  repeat (first | refine E0 ?_ | exact T0 | refine W0 ?_ | refine O0 ?_ | refine D0 ?_)
  refine onB_d (fun h e => ?_) (fun h e => ?_)
  · have hil : i < l.length := by omega
    have hd : l.drop i = l.getD i ⟨0, 0⟩ :: l.drop (i + 1) := by
      rw [List.drop_eq_getElem_cons hil]; simp [List.getD, hil]
    rw [hd, risesN] at hr
    repeat (first | refine E2 @e (ans_getD hil) ?_ | exact T2 @e (ans_getD hil) | refine W0 ?_ | refine O0 ?_ | refine D0 ?_)
    generalize l.getD i ⟨0, 0⟩ = x at *
    refine onB_split (fun h1 => ?_) (fun h1 => ?_)
    · rw [if_pos (by simpa using h1)] at hr
      repeat (first | refine E1 @h1 ?_ | exact T1 @h1 | refine W0 ?_ | refine O0 ?_ | refine D0 ?_)
      exact ⟨⟨(i + 1, z), by simp only; omega, hr⟩, _, fitsO [] (G0) (G0), by simp only; omega⟩
    · rw [if_neg (by simpa using h1)] at hr
      repeat (first | refine E1 @h1 ?_ | exact T1 @h1 | refine W0 ?_ | refine O0 ?_ | refine D0 ?_)
      refine onB_d (fun h2 e2 => ?_) (fun h2 e2 => ?_)
      · rw [if_pos h2] at hr
        repeat (first | refine E1 @e2 ?_ | exact T1 @e2 | refine W0 ?_ | refine O0 ?_ | refine D0 ?_)
        rw [← hr]
      · rw [if_neg h2] at hr
        repeat (first | refine E1 @e2 ?_ | exact T1 @e2 | refine W0 ?_ | refine O0 ?_ | refine D0 ?_)
        exact ⟨⟨(i + 1, x.c), by simp only; omega, hr⟩, _, fitsO [] (G0) (G0), by simp only; omega⟩
  · have hil : i = l.length := by omega
    subst hil
    rw [List.drop_length] at hr
    repeat (first | refine E1 @e ?_ | exact T1 @e | refine W0 ?_ | refine O0 ?_ | refine D0 ?_)
    rw [← hr]; rfl
theorem index0_pure (v : AV) : Pure Tryz.prog 87 [tsE 0 [], v] (.int .i64 (-1)) := by
  refine enterP [0, 1, 4, 5, 7, 8, 9, 16] [.tmp 4] Tryz.func87 rfl (by kernel_rfl) rfl ?_
  repeat (first | refine E0 ?_ | exact T0 | refine W0 ?_ | refine O0 ?_ | refine D0 ?_)
  refine loop_inv (α := Unit) (fun _ => ⟨[(7, .int .i64 0), (8, .int .i64 0)], []⟩) (fun i => 0) ()
    (by exact fitsO [] (G0) (G0)) (fun _ => ?_)
  repeat (first | refine E0 ?_ | exact T0 | refine W0 ?_ | refine O0 ?_ | refine D0 ?_)
theorem contains0_pure : Pure Tryz.prog 35 [tsE 0 [], .undef] (.bool false) := by
  refine enterP [0, 1, 4] [.tmp 4] Tryz.func35 rfl (by kernel_rfl) rfl ?_
  repeat (first | refine E0 ?_ | exact T0 | refine W0 ?_ | refine O0 ?_ | refine D0 ?_)
  refine C0 (index0_pure .undef) ?_
  repeat (first | refine E0 ?_ | exact T0 | refine W0 ?_ | refine O0 ?_ | refine D0 ?_)
theorem equal0_pure (v : AV) : Pure Tryz.prog 40 [tsE 0 [], tsE 0 [], v] (.bool true) := by
  refine enterP [0, 1, 2, 6, 7, 8, 9, 14, 15, 16, 17, 18, 30] [.tmp 6] Tryz.func40 rfl (by kernel_rfl) rfl ?_
  repeat (first | refine E0 ?_ | exact T0 | refine W0 ?_ | refine O0 ?_ | refine D0 ?_)
  refine loop_inv (α := Unit) (fun _ => ⟨[(16, .int .i64 0), (17, .int .i64 0)], []⟩) (fun i => 0) ()
    (by exact fitsO [] (G0) (G0)) (fun _ => ?_)
  repeat (first | refine E0 ?_ | exact T0 | refine W0 ?_ | refine O0 ?_ | refine D0 ?_)
theorem whole0_pure : Pure Tryz.prog 13 [.agg [.int .i64 0, .int .u64 0, .str ⟨#[]⟩, tsE 0 []], tsE 0 []] (.bool true) := by
  refine enterO [0, 1, 2, 4, 18] [.tmp 4] Tryz.func13 ?_
  repeat (first | refine E0 ?_ | exact T0 | refine W0 ?_ | refine O0 ?_ | refine D0 ?_)
theorem whole1_pure : Pure Tryz.prog 13 [.agg [.int .i64 0, .int .u64 1, .str ⟨#[]⟩, tsE 0 []], tsE 0 []] (.bool false) := by
  refine enterO [0, 1, 2, 4, 18] [.tmp 4] Tryz.func13 ?_
  repeat (first | refine E0 ?_ | exact T0 | refine W0 ?_ | refine O0 ?_ | refine D0 ?_)
  refine C0 (contains0_pure) ?_
  repeat (first | refine E0 ?_ | exact T0 | refine W0 ?_ | refine O0 ?_ | refine D0 ?_)
theorem same1_pure : Pure Tryz.prog 15 [.agg [.int .i64 0, .int .u64 1, .str ⟨#[]⟩, tsE 0 []], .agg [.int .i64 0, .int .u64 1, .str ⟨#[]⟩, tsE 0 []]] (.bool true) := by
  refine enterO [0, 1, 2, 3, 4] [.tmp 4] Tryz.func15 ?_
  repeat (first | refine E0 ?_ | exact T0 | refine W0 ?_ | refine O0 ?_ | refine D0 ?_)
  refine C0 (equal0_pure (.fn 41 [])) ?_
  repeat (first | refine E0 ?_ | exact T0 | refine W0 ?_ | refine O0 ?_ | refine D0 ?_)
theorem way0_pure : Pure Tryz.prog 9 [tsE 0 [], tsE 0 [], tsE 0 [], .int .i64 0] (.bool false) := by
  refine enterO [0, 1, 2, 3, 8, 9, 10, 11, 32, 38, 39, 40, 41, 62] [.tmp 8] Tryz.func9 ?_
  repeat (first | refine E0 ?_ | exact T0 | refine W0 ?_ | refine O0 ?_ | refine D0 ?_)
theorem known_pure : Pure Tryz.prog 11 [] (.bool true) := by
  refine enterO [0] [.tmp 0] Tryz.func11 ?_
  repeat (first | refine E0 ?_ | exact T0 | refine W0 ?_ | refine O0 ?_ | refine D0 ?_)
  refine C0 (whole0_pure) ?_
  repeat (first | refine E0 ?_ | exact T0 | refine W0 ?_ | refine O0 ?_ | refine D0 ?_)
  refine C0 (whole1_pure) ?_
  repeat (first | refine E0 ?_ | exact T0 | refine W0 ?_ | refine O0 ?_ | refine D0 ?_)
  refine C0 (rises_pure [⟨0, 1⟩, ⟨0, 1⟩] (by simp)) ?_
  repeat (first | refine E0 ?_ | exact T0 | refine W0 ?_ | refine O0 ?_ | refine D0 ?_)
  have r1 : risesN [⟨0, 1⟩, ⟨0, 1⟩] 0 = true := by decide
  repeat (first | refine E1 @r1 ?_ | exact T1 @r1 | refine W0 ?_ | refine O0 ?_ | refine D0 ?_)
  refine C0 (rises_pure [⟨0, 2⟩, ⟨0, 1⟩] (by simp)) ?_
  have r2 : risesN [⟨0, 2⟩, ⟨0, 1⟩] 0 = false := by decide
  repeat (first | refine E1 @r2 ?_ | exact T1 @r2 | refine W0 ?_ | refine O0 ?_ | refine D0 ?_)
  refine C0 (way0_pure) ?_
  repeat (first | refine E0 ?_ | exact T0 | refine W0 ?_ | refine O0 ?_ | refine D0 ?_)
  refine C0 (same1_pure) ?_
  repeat (first | refine E0 ?_ | exact T0 | refine W0 ?_ | refine O0 ?_ | refine D0 ?_)
  refine C0 (one_pure 1) ?_
  have hp := pk0_some
  have e : decide (((pkBytes (pk0 1)).length : Int) > 0) = true := decide_eq_true (by omega)
  repeat (first | refine E1 @e ?_ | exact T1 @e | refine W0 ?_ | refine O0 ?_ | refine D0 ?_)
def dwordA (x : UInt64) : AV := .int .u64 x.toNat
def boolA (b : Bool) : AV := .bool b
theorem dwords_getD {l : List UInt64} {i : Nat} (h : i < l.length) (d : AV) : (l.map dwordA).getD i d = .int .u64 (l.getD i 0).toNat := by simp [List.getD, h, dwordA]
theorem bools_getD {l : List Bool} {i : Nat} (h : i < l.length) (d : AV) : (l.map boolA).getD i d = .bool (l.getD i false) := by simp [List.getD, h, boolA]
theorem auditRow_pure (l : List UInt64) (bad : List Bool) (hl : l.length < 2 ^ 63) (hb : bad.length < 2 ^ 63) : Pure Tryz.prog 5 [tsE 1 (l.map dwordA), tsE 1 (bad.map boolA)] (.bool true) := by
  refine enterO [0, 1, 4, 5, 6, 7, 8, 9, 17, 21, 38] [.tmp 4] Tryz.func5 ?_
  repeat (first | refine E0 ?_ | exact T0 | refine W0 ?_ | refine O0 ?_ | refine D0 ?_)
  refine onB_d (fun h1 e1 => ?_) (fun h1 e1 => ?_)
  · repeat (first | refine E1 @e1 ?_ | exact T1 @e1 | refine W0 ?_ | refine O0 ?_ | refine D0 ?_)
  · repeat (first | refine E1 @e1 ?_ | exact T1 @e1 | refine W0 ?_ | refine O0 ?_ | refine D0 ?_)
    refine onB_d (fun h2 e2 => ?_) (fun h2 e2 => ?_)
    · repeat (first | refine E1 @e2 ?_ | exact T1 @e2 | refine W0 ?_ | refine O0 ?_ | refine D0 ?_)
    · repeat (first | refine E1 @e2 ?_ | exact T1 @e2 | refine W0 ?_ | refine O0 ?_ | refine D0 ?_)
      refine loop_inv (α := {p : Nat × List AnN // p.1 ≤ l.length ∧ p.2.length = p.1})
        (fun p => ⟨[(0, tsE 1 (l.map dwordA)), (1, tsE 1 (bad.map boolA)), (5, slV 0 4 p.1.2.length), (6, .bool (risesN p.1.2 0)), (7, .int .u64 (lastOf p.1.2 0).toNat), (8, .int .i64 p.1.1)], [rowB true 4 (p.1.2.map anA)]⟩) (fun p => l.length - p.1.1) ⟨(0, []), Nat.zero_le _, rfl⟩
        (by exact fitsO [0] (G4 @risesN.eq_1 @risesN.eq_2 @lastOf.eq_1 @lastOf.eq_2) (G0)) (fun ⟨⟨i, A⟩, hi, hA⟩ => ?_)
      simp only at hi hA
      repeat (first | refine E0 ?_ | exact T0 | refine W0 ?_ | refine O0 ?_ | refine D0 ?_)
      refine onB_d (fun h3 e3 => ?_) (fun h3 e3 => ?_)
      · have hil : i < l.length := by omega
        repeat (first | refine E2 @e3 (dwords_getD hil) ?_ | exact T2 @e3 (dwords_getD hil) | refine W0 ?_ | refine O0 ?_ | refine D0 ?_)
        generalize hx : l.getD i 0 = x
        by_cases hib : i < bad.length
        · have e4 : decide ((i : Int) < bad.length) = true := decide_eq_true (by omega)
          cases hbb : bad.getD i false with
          | true =>
            have hA2 : (A ++ [AnN.mk 6 x]).map anA = A.map anA ++ [.agg [.int .i64 6, .int .u64 x.toNat, .str ⟨#[]⟩, tsE 0 []]] := by rw [List.map_append]; rfl
            have hr2 : risesN (A ++ [AnN.mk 6 x]) 0 = risesN A 0 := by rw [rises_snoc]; simp
            have hr3 : lastOf (A ++ [AnN.mk 6 x]) 0 = lastOf A 0 := by rw [last_snoc]; rfl
            repeat (first | refine E5 @e4 (bools_getD hib) @hbb (dwords_getD hil) @hx ?_ | exact T5 @e4 (bools_getD hib) @hbb (dwords_getD hil) @hx | refine W0 ?_ | refine O0 ?_ | refine D0 ?_)
            exact ⟨⟨(i + 1, A ++ [⟨6, x⟩]), by simp only; omega, by simp; omega⟩, _, fitsO [3] (G2 @hr2 @hr3) (G1 @hA2), by simp only; omega⟩
          | false =>
            have hA2 : (A ++ [AnN.mk 0 x]).map anA = A.map anA ++ [.agg [.int .i64 0, .int .u64 x.toNat, .str ⟨#[]⟩, tsE 0 []]] := by rw [List.map_append]; rfl
            have hr2 : risesN (A ++ [AnN.mk 0 x]) 0 = (risesN A 0 && decide (lastOf A 0 ≤ x)) := by rw [rises_snoc]; rfl
            have hr3 : lastOf (A ++ [AnN.mk 0 x]) 0 = x := by rw [last_snoc]; rfl
            repeat (first | refine E5 @e4 (bools_getD hib) @hbb (dwords_getD hil) @hx ?_ | exact T5 @e4 (bools_getD hib) @hbb (dwords_getD hil) @hx | refine W0 ?_ | refine O0 ?_ | refine D0 ?_)
            refine onB_split (fun h5 => ?_) (fun h5 => ?_)
            · rw [h5] at hr2
              repeat (first | refine E3 @h5 (dwords_getD hil) @hx ?_ | exact T3 @h5 (dwords_getD hil) @hx | refine W0 ?_ | refine O0 ?_ | refine D0 ?_)
              exact ⟨⟨(i + 1, A ++ [⟨0, x⟩]), by simp only; omega, by simp; omega⟩, _, fitsO [3] (G2 @hr2 @hr3) (G1 @hA2), by simp only; omega⟩
            · rw [h5] at hr2
              repeat (first | refine E3 @h5 (dwords_getD hil) @hx ?_ | exact T3 @h5 (dwords_getD hil) @hx | refine W0 ?_ | refine O0 ?_ | refine D0 ?_)
              exact ⟨⟨(i + 1, A ++ [⟨0, x⟩]), by simp only; omega, by simp; omega⟩, _, fitsO [3] (G2 @hr2 @hr3) (G1 @hA2), by simp only; omega⟩
        · have e4 : decide ((i : Int) < bad.length) = false := decide_eq_false (by omega)
          have hA2 : (A ++ [AnN.mk 0 x]).map anA = A.map anA ++ [.agg [.int .i64 0, .int .u64 x.toNat, .str ⟨#[]⟩, tsE 0 []]] := by rw [List.map_append]; rfl
          have hr2 : risesN (A ++ [AnN.mk 0 x]) 0 = (risesN A 0 && decide (lastOf A 0 ≤ x)) := by rw [rises_snoc]; rfl
          have hr3 : lastOf (A ++ [AnN.mk 0 x]) 0 = x := by rw [last_snoc]; rfl
          repeat (first | refine E3 @e4 (dwords_getD hil) @hx ?_ | exact T3 @e4 (dwords_getD hil) @hx | refine W0 ?_ | refine O0 ?_ | refine D0 ?_)
          refine onB_split (fun h5 => ?_) (fun h5 => ?_)
          · rw [h5] at hr2
            repeat (first | refine E3 @h5 (dwords_getD hil) @hx ?_ | exact T3 @h5 (dwords_getD hil) @hx | refine W0 ?_ | refine O0 ?_ | refine D0 ?_)
            exact ⟨⟨(i + 1, A ++ [⟨0, x⟩]), by simp only; omega, by simp; omega⟩, _, fitsO [3] (G2 @hr2 @hr3) (G1 @hA2), by simp only; omega⟩
          · rw [h5] at hr2
            repeat (first | refine E3 @h5 (dwords_getD hil) @hx ?_ | exact T3 @h5 (dwords_getD hil) @hx | refine W0 ?_ | refine O0 ?_ | refine D0 ?_)
            exact ⟨⟨(i + 1, A ++ [⟨0, x⟩]), by simp only; omega, by simp; omega⟩, _, fitsO [3] (G2 @hr2 @hr3) (G1 @hA2), by simp only; omega⟩
      · have hil : i = l.length := by omega
        subst hil
        repeat (first | refine E1 @e3 ?_ | exact T1 @e3 | refine W0 ?_ | refine O0 ?_ | refine D0 ?_)
        refine C0 (rises_pure A (by omega)) ?_
        repeat (first | refine E0 ?_ | exact T0 | refine W0 ?_ | refine O0 ?_ | refine D0 ?_)
        refine onB_split (fun h5 => ?_) (fun h5 => ?_)
        · repeat (first | refine E1 @h5 ?_ | exact T1 @h5 | refine W0 ?_ | refine O0 ?_ | refine D0 ?_)
          refine C0 (known_pure) ?_
          repeat (first | refine E0 ?_ | exact T0 | refine W0 ?_ | refine O0 ?_ | refine D0 ?_)
          rw [h5]
          rfl
        · simp at h5
end
